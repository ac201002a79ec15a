import Derived.Test.YtmekpbopoknigaaGreatDoorQJ
import Derived.Laws.BytesString
namespace Go.Proofs.YtmekpbopoknigaaGreatDoor.Dyn
open Go Go.RowKit Sym
section
variable{P:Program}{w0:Base P}{w:World}{β:Env}{st:St}{a:Act}{cs:List (Nat×Bool)}{o:Oper}{r:Res}{K:Act->World->Prop}{Q:Exit->Act->World->Prop}
theorem intMap_spec{t e:TypeId}(h:intMapOf P t=some e):∃k,P.underlying t=some (.map k e)/\P.underlying k=some (.int .i64):=by
 unfold intMapOf at h
 split at h
 ·rename_i k e' hu
  split at h
  ·rename_i hk
   simp only[Option.some.injEq]at h;subst h
   exact⟨k,hu,hk⟩
  ·cases h
 ·cases h
theorem findNow_im{N:Nat->Prop}{i:Int}:∀{es:List MapEntry} {l:List (Int×DV)} {k:Nat},ImOk w N es l->(∀v,findI i l=some v->∃j u,Instr.findNow (.int .i64) (.int .i64 i) es k=some (some (j,u))/\DenV w N v u)/\(findI i l=none->Instr.findNow (.int .i64) (.int .i64 i) es k=some none)
 |[],[],k,_=>⟨λv h=>(by cases h),λ_=>rfl⟩
 |[],_::_,_,h=>h.elim
 |_::_,[],_,h=>h.elim
 |e::es,x::l,k,h=>by
  obtain⟨h1,h2,h3⟩:e.key=.int .i64 x.1/\DenV w N x.2 e.val/\ImOk w N es l:=h
  have ih:=findNow_im (i:=i) (k:=k+1) h3
  have hs:Instr.sameNow (.int .i64) (.int .i64 i) e.key=some (i==x.1):=by rw[h1];simp[Instr.sameNow]
  by_cases q:i=x.1
  ·have hb:(i==x.1)=true:=by simp[q]
   rw[hb]at hs
   refine⟨λv hv=>?_,λhn=>?_⟩
   ·simp only[findI,decide_eq_true q,Option.some.injEq]at hv;subst hv
    exact⟨k,e.val,by simp only[Instr.findNow,hs],h2⟩
   ·simp only[findI,decide_eq_true q]at hn;cases hn
  ·have hb:(i==x.1)=false:=by simp[q]
   rw[hb]at hs
   refine⟨λv hv=>?_,λhn=>?_⟩
   ·simp only[findI,decide_eq_false q]at hv
    obtain⟨j,u,g1,g2⟩:=ih.1 v hv
    exact⟨j,u,by simp only[Instr.findNow,hs];exact g1,g2⟩
   ·simp only[findI,decide_eq_false q]at hn
    simp only[Instr.findNow,hs];exact ih.2 hn
theorem key_int{k:TypeId}(h2:P.underlying k=some (.int .i64))(i:Int)(em:Bool):(Instr.checkKey em 10000 k (.int .i64 i)).run P w=.ok () w:=by
 have c:∀d,(Instr.checkKey em (d+1) k (.int .i64 i)).run P w=.ok () w:=λd=>by simp[Instr.checkKey,run_underlying h2]
 exact c 9999
theorem lookup_im{t e b:Nat}{i:Int}{es:Array MapEntry}{clock:Nat}{ok:Bool}(ht:intMapOf P t=some e)(hb:w.heap[b]? = some (.map es clock)){fr:Option (Nat×Value)}(hf:Instr.findNow (.int .i64) (.int .i64 i) es.toList 0=some fr){z:Value}(hz:fr=none->(zeroValue e).run P w=.ok z w) :
  (Instr.lookup t (.map (some b)) (.int .i64 i) ok).run P w=.ok (match fr with
   |some (_,v)=>if ok then .tuple #[v,.bool true]else v
   |none=>if ok then .tuple #[z,.bool false]else z) w:=by
 obtain⟨k,h1,h2⟩:=intMap_spec ht
 have hk:(Instr.checkKey es.isEmpty 10000 k (.int .i64 i)).run P w=.ok () w:=key_int h2 i _
 have hfk:(Instr.findKey k (.int .i64 i) es.toList).run P w=.ok fr w:=by
  unfold Instr.findKey
  simp only[Sem.run_bind,run_underlying h2,Result.andThen_ok,hf,Sem.run_pure]
 unfold Instr.lookup
 simp only[Sem.run_bind,run_underlying h1,Result.andThen_ok,MapKept.run_getObj_map hb,Sem.run_pure,hk,hfk]
 cases fr with
 |none=>simp[hz rfl]
 |some p=>obtain⟨j,v⟩:=p;simp
theorem update_im{t e b:Nat}{i:Int}{es:Array MapEntry}{clock:Nat}{v:Value}(ht:intMapOf P t=some e)(hb:w.heap[b]? = some (.map es clock))(hf:Instr.findNow (.int .i64) (.int .i64 i) es.toList 0=some none) :
  (Instr.mapUpdate t (.map (some b)) (.int .i64 i) v).run P w=.ok () {w with heap:=w.heap.setIfInBounds b (.map (es.push {key:=.int .i64 i,val:=v,born:=clock}) (clock+1))}:=by
 obtain⟨k,h1,h2⟩:=intMap_spec ht
 have hk:(Instr.checkKey false 10000 k (.int .i64 i)).run P w=.ok () w:=key_int h2 i _
 have hfk:(Instr.findKey k (.int .i64 i) es.toList).run P w=.ok none w:=by
  unfold Instr.findKey
  simp only[Sem.run_bind,run_underlying h2,Result.andThen_ok,hf,Sem.run_pure]
 unfold Instr.mapUpdate
 simp[run_underlying h1,MapKept.run_getObj_map hb,hk,hfk,MapKept.run_setObj_map _ hb]
theorem ImOk.push{N:Nat->Prop}:∀{es:List MapEntry} {l:List (Int×DV)} {e:MapEntry} {x:Int×DV},ImOk w N es l->e.key=.int .i64 x.1->DenV w N x.2 e.val->ImOk w N (es++[e]) (l++[x])
 |[],[],e,x,_,h1,h2=>⟨h1,h2,trivial⟩
 |_::_,_::_,e,x,h,h1,h2=>⟨h.1,h.2.1,h.2.2.push h1 h2⟩
 |[],_::_,_,_,h,_,_=>h.elim
 |_::_,[],_,_,h,_,_=>h.elim
theorem tell_post{h:List (Option HE)}{fresh:Nat}{v:DV}{u:Value}{w':World}(m:Mem w0 β h w')(hf:fresh<h.length)(hn:h.getD fresh none=none)(hd:DenV w' (NF w0 β h w') v u)(hp:pOk (cellsV v)=true) :
  ∃β',(∀n c,h.getD n none=some c->β' n=β n)/\Mem w0 β' (heapSet h (updD fresh (cellsV v))) w'/\ren β' (instV fresh 0 v)=u/\∀n∈refs (instV fresh 0 v),∃c,(heapSet h (updD fresh (cellsV v))).getD n none=some c:=by
 obtain⟨us,d1,k⟩:=DenR_cells (r:=.val v) hd
 obtain⟨β',b1,b2,b3,b4,_⟩:=inst_mem m (fresh:=fresh) (λ_=>⟨hf,hn⟩) d1 hp
 obtain⟨k1,k2⟩:=k fresh β' (b3 0 rfl)
 exact⟨β',b1,b2,k1,λn hn'=>by
  obtain⟨y,y1,y2⟩:=k2 n hn'
  exact b4 y y1 n y2⟩
theorem inst_ren1{N:Nat->Prop}{v:DV}{u:Value}(h:DenV w N v u)(fresh:Nat)(β:Env):ren1 β (instV fresh 0 v)=ren β (instV fresh 0 v)/\refs (instV fresh 0 v)=refs1 (instV fresh 0 v):=by
 cases v with
 |one d=>
  cases d with
  |p x=>
   have h1:oneCellB x=true:=by cases h;assumption
   have e:instV fresh 0 (.one (.p x))=x:=rfl
   rw[e]
   cases x<;>first|exact⟨rfl,rfl⟩|cases h1
  |row n f=>exact⟨rfl,rfl⟩
  |ptr cs=>exact⟨rfl,rfl⟩
 |agg ds=>exact⟨rfl,rfl⟩
theorem rowBytes_at{f:Nat->List DC}:∀{n i:Nat} {l:List Int},rowBytes f i n=some l->l.length=n/\∀j,j<n->f (i+j)=[.p (.int .u8 (l.getD j 0))]
 |0,i,l,h=>by simp only[rowBytes,Option.some.injEq]at h;subst h;exact⟨rfl,λj hj=>absurd hj (Nat.not_lt_zero j)⟩
 |n+1,i,l,h=>by
  simp only[rowBytes]at h
  split at h
  ·rename_i c hfi
   split at h
   ·rename_i l' hl'
    simp only[Option.some.injEq]at h;subst h
    obtain⟨e1,e2⟩:=rowBytes_at hl'
    refine⟨by simp[e1],λj hj=>?_⟩
    cases j with
    |zero=>rw[Nat.add_zero,hfi];rfl
    |succ j=>
     have:=e2 j (by omega)
     rw[show i+(j+1)=i+1+j by omega];simpa using this
   ·cases h
  ·cases h
theorem intOf_eval(m:M w0 β st a w)(hc:holds st.slots cs){x:Operand}{i:Int}(h:intOf (evS st.slots cs x)=some i):∃k,a.eval x=.int k i:=by
 unfold intOf at h
 split at h
 ·rename_i k j hx
  simp only[Option.some.injEq]at h;subst h
  exact⟨k,eval_plain m hc hx⟩
 ·cases h
theorem bound_run{x:Value}{k:IntKind}{i:Int}{y:Nat}(code:BoundsCode)(hx:x=.int k i)(h:0<=i/\i<=(y:Int)):(Instr.sliceBound x y code).run P w=.ok i.toNat w:=by
 subst hx
 unfold Instr.sliceBound
 simp only[asIntOf,Sem.run_bind,Sem.run_pure,Result.andThen_ok]
 rw[if_pos h];rfl
theorem cut_bounds{isl:Bool}(m:M w0 β st a w)(hc:holds st.slots cs){k cap:Nat}(hk:k<=cap){lo hi mx:Option Operand}{l h m0:Int}(hcut:cutOf (evS st.slots cs) k lo hi mx=some (l,h,m0))(hd:0<=l/\l<=h/\h<=m0/\m0<=(k:Int)) :
  l.toNat<=h.toNat/\h.toNat<=k/\∃q,h.toNat<=q/\q<=cap/\(mx=none->q=cap)/\(Instr.sliceBounds isl k cap (lo.map a.eval) (hi.map a.eval) (mx.map a.eval)).run P w=.ok (l.toNat,h.toNat,q) w:=by
 unfold cutOf at hcut
 split at hcut
 ·rename_i l' h' m' hl hh hm
  ·simp only[Option.some.injEq,Prod.mk.injEq]at hcut
   obtain⟨rfl,rfl,rfl⟩:=hcut
   refine⟨by omega,by omega,?_⟩
   have eh:((h'.toNat:Nat):Int)=h':=by omega
   have em:((m'.toNat:Nat):Int)=m':=by omega
   have bl:∀(code:BoundsCode) x,lo=some x->(Instr.sliceBound (a.eval x) h'.toNat code).run P w=.ok l'.toNat w:=λcode x e=>by
    subst e
    obtain⟨q,e⟩:=intOf_eval m hc hl
    exact bound_run code e (by omega)
   cases mx with
   |none=>
    simp only[Option.some.injEq]at hm
    refine⟨cap,by omega,Nat.le_refl _,λ_=>rfl,?_⟩
    cases hi with
    |none=>
     simp only[Option.some.injEq]at hh
     have hk':h'.toNat=k:=by omega
     cases lo with
     |none=>
      simp only[Option.some.injEq]at hl
      subst hl
      unfold Instr.sliceBounds
      simp[hk']
     |some x=>
      have b1:=bl .sliceB x rfl
      rw[hk']at b1
      unfold Instr.sliceBounds
      simp[hk',b1]
    |some y=>
     obtain⟨q,e⟩:=intOf_eval m hc hh
     have b2:(Instr.sliceBound (a.eval y) cap (if isl then .sliceAcap else .sliceAlen)).run P w=.ok h'.toNat w:=bound_run _ e (by omega)
     cases lo with
     |none=>
      simp only[Option.some.injEq]at hl
      subst hl
      unfold Instr.sliceBounds
      simp[b2]
     |some x=>
      have b1:=bl .sliceB x rfl
      unfold Instr.sliceBounds
      simp[b1,b2]
   |some z=>
    cases hi with
    |none=>cases hm
    |some y=>
     obtain⟨q,e⟩:=intOf_eval m hc hh
     obtain⟨q',e'⟩:=intOf_eval m hc hm
     have b3:(Instr.sliceBound (a.eval z) cap (if isl then .slice3Acap else .slice3Alen)).run P w=.ok m'.toNat w:=bound_run _ e' (by omega)
     have b2:(Instr.sliceBound (a.eval y) m'.toNat .slice3B).run P w=.ok h'.toNat w:=bound_run _ e (by omega)
     refine⟨m'.toNat,by omega,by omega,(λe=>by cases e),?_⟩
     cases lo with
     |none=>
      simp only[Option.some.injEq]at hl
      subst hl
      unfold Instr.sliceBounds
      simp[b2,b3]
     |some x=>
      have b1:=bl .slice3C x rfl
      unfold Instr.sliceBounds
      simp[b1,b2,b3]
 ·cases hcut
theorem slice_run{t e:TypeId}{x:Operand}{lo hi mx:Option Operand}{size l h k cap q:Nat}{ad:Option Addr}(ho:o.op=.slice t x lo hi mx)(he:sliceOf P t=some e)(hs:sizeO P e=some size)(hx:a.eval x=.slice ad k cap)
  (hb:(Instr.sliceBounds true k cap (lo.map a.eval) (hi.map a.eval) (mx.map a.eval)).run P w=.ok (l,h,q) w):(execOp a.eval o).run P w=.ok (.value (.slice (if q=l then ad else ad.map (·.add (l*size))) (h-l) (q-l))) w:=by
 unfold sliceOf at he
 split at he
 ·rename_i e' hu
  simp only[Option.some.injEq]at he;subst he
  simp only[execOp,ho,hx,Instr.sliceAt,Instr.slice,Sem.run_bind,run_underlying hu,Sem.run_pure,Result.andThen_ok,hb,sizeOf_run hs]
 ·cases he
theorem opCl_sound{X:Tabs}{fresh:Nat}(m:M w0 β st a w)(hc:holds st.slots cs)(hfr:makes X o=true->fresh<st.heap.length/\st.heap.getD fresh none=none)
  {hp:Nat->Option HE} (hhp:∀n c,hp n=some c->st.heap.getD n none=some c)
  (h:opCl P X (evS st.slots cs) hp fresh o=some r) (hs:allP r.sides) (hK:∀β' u w',Post w0 β st.slots st.heap r u β' w'->K (a.put o.dst u) w'):o.wp P a w K Q:=by
 have hhp':∀n c,hp n=some c->c=.gone\/st.heap.getD n none=some c:=λn c h=>.inr (hhp n c h)
 have hhq:∀n c,noRaw hp n=some c->c=.gone\/st.heap.getD n none=some c:=λn c h=>.inr (hhp n c (noRaw_hp h))
 unfold opCl at h
 split at h
 ·cases h
 ·rename_i hcl
  split at h
  ·
   rename_i t ho
   obtain⟨hf,hn⟩:=hfr (by simp[makes,ho])
   split at h
   ·simp only[Option.some.injEq]at h;subst h
    refine wp_value (u:=.map (some w.heap.size)) ?_ (hK (bump β fresh (w.heap.size,λ_=>.bool false)) _ (push w (.map #[] 0)) ⟨λn c hc=>bump_ne λe=>?_,?_,λn hn'=>?_,?_⟩)
    ·simp only[execOp,ho,Instr.makeMap,Option.map_none,Sem.run_bind,Sem.run_pure,Result.andThen_ok,run_newObj]
     rfl
    ·rw[e,hn]at hc;cases hc
    ·show _=ren _ _
     simp only[ren,ren1,ren0,renP]
     rw[bump_at]
    ·simp only[names,refs,refs1,refs0,refsP,List.mem_singleton]at hn';subst hn'
     exact⟨.im [],by simp only[heapSet];rw[getD_set'',if_pos ⟨rfl,hf⟩]⟩
    ·simp only[heapSet]
     exact m.mem.newIm hf hn 0
   ·cases h
  ·
   rename_i t mo k ok ho
   obtain⟨hf,hn⟩:=hfr (by simp[makes,ho,hcl])
   split at h
   ·rename_i n i e hm hk hmap
    have hd:=Den_eval m hc mo
    rw[hm]at hd
    have hmo:a.eval mo=.map (some (β n).1):=hd
    have hke:=eval_plain m hc hk
    split at h
    ·rename_i l hl
     obtain⟨⟨es,clock,hb,hes⟩,_⟩:=m.mem.ok n _ (hhp _ _ hl)
     obtain⟨f1,f2⟩:=findNow_im (i:=i) (k:=0) hes
     split at h
     ·rename_i v hv
      split at h
      ·rename_i hpo
       simp only[Option.some.injEq]at h;subst h
       obtain⟨j,u,g1,g2⟩:=f1 v hv
       have hrun:=lookup_im (P:=P) (w:=w) (ok:=ok) (z:=undef) hmap hb g1 (λe=>by cases e)
       obtain⟨β',b1,b2,b3,b4⟩:=tell_post m.mem hf hn g2 hpo
       refine wp_value (u:=if ok then .tuple #[u,.bool true]else u) ?_ (hK β' _ w ⟨b1,?_,λq hq=>?_,b2⟩)
       ·simp only[execOp,ho,hmo,hke,Sem.run_bind,hrun,Result.andThen_ok,Sem.run_pure]
       ·cases ok with
        |false=>show u=ren β' _;exact b3.symm
        |true=>
         show Value.tuple #[u,.bool true]=ren β' (.tuple #[instV fresh 0 v,.bool true])
         have hnt:ren1 β' (instV fresh 0 v)=u:=by
          rw[←b3];exact(inst_ren1 g2 fresh β').1
         simp only[ren,List.map_cons,List.map_nil,hnt]
         rfl
       ·cases ok with
        |false=>exact b4 q hq
        |true=>
         have hq':q∈refsL refs1 [instV fresh 0 v,.bool true]:=hq
         simp only[refsL,List.mem_append]at hq'
         rcases hq' with k|k|k
         ·refine b4 q ?_
          rw[(inst_ren1 g2 fresh β').2];exact k
         ·cases k
         ·cases k
      ·cases h
     ·rename_i hnone
      split at h
      ·rename_i z hz
       split at h
       ·rename_i hfl2
        simp only[Bool.and_eq_true]at hfl2
        obtain⟨hfl,hnt⟩:=hfl2
        simp only[Option.some.injEq]at h;subst h
        have hrun:=lookup_im (P:=P) (w:=w) (ok:=ok) (z:=z) hmap hb (f2 hnone) (λ_=>zero_run hz)
        refine wp_value (u:=if ok then .tuple #[z,.bool false]else z) ?_ (hK β _ w ?_)
        ·simp only[execOp,ho,hmo,hke,Sem.run_bind,hrun,Result.andThen_ok,Sem.run_pure]
        ·have hz1:ren1 β z=z:=ren1_flat hfl
         refine Post.same m rfl ?_ (λq hq=>?_)
         ·cases ok with
          |false=>
           show z=ren β z
           cases z<;>first|exact hz1.symm|cases hnt
          |true=>
           show Value.tuple #[z,.bool false]=ren β (.tuple #[z,.bool false])
           simp only[ren,List.map_cons,List.map_nil,hz1]
           rfl
         ·cases ok with
          |false=>
           have hq':q∈refs z:=hq
           have:refs z=[]:=by
            have e1:=refs1_flat hfl
            cases z<;>first|exact e1|cases hnt
           rw[this]at hq';cases hq'
          |true=>
           have hq':q∈refsL refs1 [z,.bool false]:=hq
           simp only[refsL,List.mem_append]at hq'
           rcases hq' with k|k|k
           ·rw[refs1_flat hfl]at k;cases k
           ·cases k
           ·cases k
       ·cases h
      ·cases h
    ·cases h
   ·cases h
  ·
   rename_i t mo k x ho
   split at h
   ·rename_i n i u e hm hk hx hmap
    have hd:=Den_eval m hc mo
    rw[hm]at hd
    have hmo:a.eval mo=.map (some (β n).1):=hd
    have hke:=eval_plain m hc hk
    have hxe:a.eval x=ren β u:=named_eval (Den_eval m hc x) hx
    split at h
    ·rename_i l hl
     split at h
     ·rename_i v fz hnone hv hfz
      simp only[Option.some.injEq]at h;subst h
      have hn:=hhp _ _ hl
      obtain⟨⟨es,clock,hb,hes⟩,hown⟩:=m.mem.ok n _ hn
      obtain⟨_,f2⟩:=findNow_im (i:=i) (k:=0) hes
      have hrun:=update_im (P:=P) (w:=w) (v:=ren β u) hmap hb (f2 hnone)
      obtain⟨g1,g2,g3,g4⟩:=frz_sound (refs u) m.mem hhp' hfz
      have hlt:(β n).1<w.heap.size:=(m.mem.lt hn (b:=(β n).1) rfl).2
      have hn':(heapSet st.heap fz).getD n none=some (.im l):=by
       rw[heapSet_ne fz _ λc hc=>by
        obtain⟨_,⟨t',k',f',h3⟩,_⟩:=g4 n c hc
        rw[hn]at h3;cases h3]
       exact hn
      have hden:=toDV_den (F:=NF w0 β (heapSet st.heap fz) w) m.mem hhq (.inl λ_ _=>noRaw_not) g2 hv (λq hq t k f hhe b hb=>(g3 q hq _ hhe).2 b hb) (.inl λq hq t cs hx=>(g3 q hq _ hx).1 t cs rfl)
      have hes2:=(g1.ok n _ hn').1
      refine wp_skip' (w':={w with heap:=w.heap.setIfInBounds (β n).1 (.map (es.push {key:=.int .i64 i,val:=ren β u,born:=clock}) (clock+1))}) ?_ (hK β _ _ ⟨λ_ _ _=>rfl,rfl,λz hz=>(by cases hz),?_⟩)
      ·simp only[execOp,ho,hmo,hke,hxe,Sem.run_bind,hrun,Result.andThen_ok,Sem.run_pure]
      ·dsimp only
       rw[heapSet_append]
       simp only[heapSet]
       have hat:({w with heap:=w.heap.setIfInBounds (β n).1 (.map (es.push {key:=.int .i64 i,val:=ren β u,born:=clock}) (clock+1))}:World).heap[(β n).1]? = some (.map (es.push {key:=.int .i64 i,val:=ren β u,born:=clock}) (clock+1)):=by
        show(w.heap.setIfInBounds (β n).1 _)[(β n).1]? = _
        rw[Array.getElem?_setIfInBounds,if_pos rfl,if_pos hlt]
       refine g1.putIm hn' (λhNF=>?_) hat (λz hz=>?_) (by simp) rfl rfl rfl
       ·rw[Array.toList_push]
        obtain⟨es',clock',hb',hes'⟩:=hes2
        have:es'=es:=by
         have:=hb'.symm.trans hb
         simp only[Option.some.injEq,Obj.map.injEq]at this
         exact this.1
        subst this
        exact(hes'.mono hNF).push rfl (hden.mono hNF)
       ·show(w.heap.setIfInBounds (β n).1 _)[z]? = _
        rw[Array.getElem?_setIfInBounds,if_neg (λe=>hz e.symm)]
     ·cases h
    ·cases h
   ·cases h
  ·
   rename_i s d x ho
   split at h
   ·rename_i ad n0 c0 e hx hs' hdst
    split at h
    ·rename_i sp k f hsp hrow he
     have conv:∀(l:List Int),l.length=k->(∀j,j<k->f j=[.p (.int .u8 (l.getD j 0))])->(execOp a.eval o).run P w=.ok (.value (.string (strOf l))) w:=λl hlen hel2=>by
      have hd:=Den_eval m hc x
      rw[hx]at hd
      have hev:a.eval x=(β ad.block).2 ad.off:=by
       have:a.eval x=ren β _:=hd
       rw[this];simp only[ren,ren1,ren0,renP,hsp]
      have hrow':rowAt hp ad.block ad.off=some (k,f)/\isRaw hp ad.block=false:=by
       unfold rowAt noRaw at hrow
       unfold rowAt isRaw
       cases hq:hp ad.block with
       |none=>rw[hq]at hrow;cases hrow
       |some he=>rw[hq]at hrow;cases he<;>first|exact⟨hrow,rfl⟩|cases hrow
      have hsl:P.underlying s=some (.slice e):=by
       unfold sliceOf at hs'
       split at hs'
       ·rename_i e' hu
        simp only[Option.some.injEq]at hs';subst hs';exact hu
       ·cases hs'
      rcases row_elem m.mem hhp hrow'.1 with⟨⟨oa,cap,hv⟩,hz⟩|⟨b',q',cap,size,hv,hel⟩
      ·subst hz
       have hl0:l=[]:=List.length_eq_zero_iff.1 hlen
       subst hl0
       simp only[execOp,ho,hev,hv,Sem.run_bind,run_convert_bytes_string w s d e oa 0 cap hsl he hdst]
       cases oa with
       |none=>rfl
       |some ad'=>
        have hr:=run_bytesToString (P:=P) w ad' 0 cap [] (by simp[loadCells,loadCellsFrom])
        rw[hr];rfl
      ·have hc1:∀j,j<k->w.cell? ⟨b',q'+j,none⟩=some (.int .u8 (l.getD j 0)):=λj hj=>by
        obtain⟨h1,us,d1,d2⟩:=hel j hj
        have hsz:size=1:=by rw[hel2 j hj]at h1;simpa using h1.symm
        subst hsz
        rw[hel2 j hj]at d1
        match us,d1 with
        |[u],d1=>
         have hu:u=.int .u8 (l.getD j 0):=by have:=d1.1;cases this;rfl
         have:=d2 0 u rfl
         rw[hu]at this
         simpa using this
       have hr:=run_bytesToString (P:=P) w ⟨b',q',none⟩ k cap l (by
        have:=run_loadCells (P:=P) (w:=w) ⟨b',q',none⟩ k (λj=>.int .u8 (l.getD j 0)) (λj hj=>by
         rw[show(⟨b',q',none⟩:Addr).add j=⟨b',q'+j,none⟩by simp[Addr.add]]
         exact hc1 j hj)
        rw[this]
        congr 1
        apply Array.ext'
        rw[List.toList_toArray]
        apply List.ext_getElem?
        intro j
        simp only[Array.toList_map,Array.toList_range,List.getElem?_map,List.getElem?_range]
        by_cases hj:j<k
        ·simp[hj,hlen,List.getD_eq_getElem?_getD]
        ·simp[hj,hlen])
       simp only[execOp,ho,hev,hv,Sem.run_bind,run_convert_bytes_string w s d e _ k cap hsl he hdst,hr,Result.andThen_ok,Sem.run_pure]
       rfl
     split at h
     ·split at h
      ·rename_i l hl
       simp only[Option.some.injEq]at h;subst h
       obtain⟨r1,r2⟩:=rowBytes_at hl
       exact wp_value (conv l r1 λj hj=>by have:=r2 j hj;rwa [Nat.zero_add]at this) (hK β _ w (Post.same m rfl rfl (λq hq=>by simp[names]at hq)))
      ·cases h
     ·simp only[Option.some.injEq]at h;subst h
      refine wp_value (conv ((List.range k).map λi=>byteAt (f i)) (by simp) λj hj=>?_) (hK β _ w (Post.same m rfl rfl (λq hq=>by simp[names,refs,refs1,refs0,refsP]at hq)))
      have:=hs.1 j hj
      rw[this]
      simp[List.getD_eq_getElem?_getD,hj,←this]
    ·cases h
   ·cases h
  ·
   rename_i t x y ho
   split at h
   ·rename_i s ki i hx hy hu
    simp only[Option.some.injEq]at h;subst h
    have hbd:=sdL_spec hs
    have hb:∃b,s[i.toNat]? = some b:=by
     have:i.toNat<s.size:=by omega
     exact⟨s[i.toNat],by simp[this]⟩
    obtain⟨b,hb⟩:=hb
    have hbo:byteOf s i=(b.toNat:Int):=by unfold byteOf;rw[hb]
    refine wp_value (u:=.int .u8 (byteOf s i)) ?_ (hK β _ w (Post.same m rfl rfl (λq hq=>by simp[names,refs,refs1,refs0,refsP]at hq)))
    rw[hbo]
    simp only[execOp,ho,eval_plain m hc hx,eval_plain m hc hy,Instr.index,asIntOf,Sem.run_bind,Sem.run_pure,Result.andThen_ok,run_underlying hu]
    rw[if_pos hbd.1,hb]
    rfl
   ·cases h
  ·
   rename_i t x lo hi mx ho
   obtain⟨hf,hn⟩:=hfr (by simp[makes,ho,hcl])
   split at h
   ·
    rename_i hu
    split at h
    ·rename_i s hx
     split at h
     ·rename_i l h' m0 hcut
      simp only[Option.some.injEq]at h;subst h
      have hbd:=sdL_spec hs
      obtain⟨h1,h2,q,_,_,_,hrun⟩:=cut_bounds (P:=P) (w:=w) (isl:=false) m hc (Nat.le_refl _) hcut (by
       unfold cutOf at hcut
       split at hcut
       ·rename_i hm
        simp only[Option.some.injEq,Prod.mk.injEq]at hcut hm
        omega
       ·cases hcut)
      refine wp_value (u:=.string (s.extract l.toNat h'.toNat)) ?_ (hK β _ w (Post.same m rfl rfl (λq hq=>by simp[names,refs,refs1,refs0,refsP]at hq)))
      simp only[Option.map_none]at hrun
      simp only[execOp,ho,eval_plain m hc hx,Instr.sliceAt,Instr.slice,Sem.run_bind,run_underlying hu,Sem.run_pure,Result.andThen_ok,Option.map_none,Option.isSome_none,Bool.false_eq_true,if_false,hrun]
     ·cases h
    ·cases h
   split at h
   ·rename_i ad n0 c0 e hx he
    split at h
    ·rename_i sp size hsp hsz
     have hd:=Den_eval m hc x
     rw[hx]at hd
     have hev:a.eval x=(β ad.block).2 ad.off:=by
      have:a.eval x=ren β _:=hd
      rw[this];simp only[ren,ren1,ren0,renP,hsp]
     split at h
     ·rename_i t' k f hown
      split at h
      ·rename_i l0 hI m0 hoff hcut
       simp only[Option.some.injEq]at h;subst h
       have hbd:=sdL_spec hs
       generalize hh':hI.toNat=h' at *
       have hN:=hhp _ _ hown
       obtain⟨sz,xs,s1,s2,s3,s4⟩:=m.mem.ok _ _ hN
       rw[hoff]at hev
       have fin:∀(v':Value),oneCellB v'=true->v'.ownBlock=((β ad.block).2 0).ownBlock->(execOp a.eval o).run P w=.ok (.value v') w->h'<=k->w.ownsRow w0.w.heap.size t' sz v' h' (xs.take (h'*sz))->o.wp P a w K Q:=λv' hv1 hv2 hrun hle hrow=>by
        refine wp_value hrun (hK (bump β fresh (0,λ_=>v')) v' w ⟨λq c hc=>bump_ne λe=>(by rw[e,hn]at hc;cases hc),?_,λq hq=>?_,?_⟩)
        ·show _=ren _ _
         simp only[ren,ren1,ren0,renP]
         rw[bump_at]
        ·simp only[names,refs,refs1,refs0,refsP,List.mem_singleton]at hq;subst hq
         refine⟨.own t' h' f,?_⟩
         show(heapSet st.heap ([(ad.block,HE.gone)]++[(_,.own t' h' f)])).getD _ none=_
         rw[heapSet_append]
         simp only[heapSet]
         rw[getD_set'',if_pos ⟨rfl,by simpa using hf⟩]
        ·refine append_mem (old:=[(ad.block,.gone)]) m.mem hf hn (.inr ⟨ad.block,t',k,f,rfl,hN,rfl⟩) hv1 (.inl hv2) ⟨rfl,rfl,rfl,Nat.le_refl _,λ_ _ _=>rfl⟩ (λhNF=>⟨sz,_,s1,s2,hrow,λi hi=>⟨(s4 i (by omega)).1,λj hj=>?_⟩⟩)
         obtain⟨v,v1,v2⟩:=(s4 i (by omega)).2 j hj
         refine⟨v,?_,v2.mono hNF⟩
         have hb:i*sz+j<h'*sz:=by
          have:(i+1)*sz<=h'*sz:=Nat.mul_le_mul_right _ hi
          rw[Nat.add_mul,Nat.one_mul]at this;omega
         rw[List.getElem?_take,if_pos hb];exact v1
       rcases s3.2 with⟨hv,hk0⟩|⟨g,cap,cur,hv,hg,hcur,hle,hcap,hsz',htake⟩
       ·subst hk0
        obtain⟨hl1,hh,q,_,hq2,hq3,hrun⟩:=cut_bounds (P:=P) (w:=w) (isl:=true) m hc (Nat.le_refl 0) hcut hbd
        rw[hh']at hh hrun hl1
        have hl00:l0.toNat=0:=by omega
        rw[hl00]at hrun
        have h0:h'=0:=by omega
        subst h0
        have hr:=slice_run ho he hsz (hev.trans hv) hrun
        have hq0:q=0:=hq3 rfl
        subst hq0
        refine fin (.slice none 0 0) rfl (by rw[hv]) hr (Nat.le_refl _) ⟨by simp,.inl ⟨rfl,rfl⟩⟩
       ·obtain⟨_,hh,q,_,hq2,hq3,hrun⟩:=cut_bounds (P:=P) (w:=w) (isl:=true) m hc hle hcut hbd
        rw[hh']at hh hrun
        have hl00:l0.toNat=0:=by
         unfold cutOf at hcut
         split at hcut
         ·rename_i hl _ _
          simp only[Option.some.injEq,Prod.mk.injEq]at hcut hl
          omega
         ·cases hcut
        rw[hl00]at hrun
        have hr:=slice_run ho he hsz (hev.trans hv) hrun
        have hq0:q=cap:=hq3 rfl
        subst hq0
        have e1:(Value.slice (if q=0 then some (⟨g,0,none⟩:Addr)else(some (⟨g,0,none⟩:Addr)).map (·.add (0*size))) (h'-0) (q-0))=.slice (some ⟨g,0,none⟩) h' q:=by
         split
         ·rfl
         ·simp[Addr.add]
        rw[e1]at hr
        refine fin _ rfl (by rw[hv];rfl) hr hh ⟨?_,.inr ⟨g,q,cur,rfl,hg,hcur,by omega,hcap,hsz',?_⟩⟩
        ·rw[List.length_take,s3.1]
         have:h'*sz<=k*sz:=Nat.mul_le_mul_right _ hh
         omega
        ·rw[←htake,List.take_take]
         have:h'*sz<=k*sz:=Nat.mul_le_mul_right _ hh
         rw[Nat.min_eq_left this]
      ·rename_i l0 hI m0 lo' hoff hcut
       split at h
       ·rename_i hdec
        have hdec:=of_decide_eq_true hdec
        simp only[Option.some.injEq]at h;subst h
        have hbd:=sdL_spec hs
        have hN:=hhp _ _ hown
        obtain⟨sz,xs,s1,s2,s3,s4⟩:=m.mem.ok _ _ hN
        rw[hoff]at hev
        have fin:∀(v':Value),(execOp a.eval o).run P w=.ok (.value v') w->DenC w (NF w0 β st.heap w) (.row 0 λ_=>[]) v'->o.wp P a w K Q:=λv' hrun hd=>by
         obtain⟨β',b1,b2,b3,b4⟩:=tell_post (v:=.one (.row 0 λ_=>[])) m.mem hf hn hd rfl
         refine wp_value hrun (hK β' v' w ⟨b1,b3.symm,b4,b2⟩)
        rcases s3.2 with⟨hv,hk0⟩|⟨g,cap,cur,hv,hg,hcur,hle,hcap,hsz',htake⟩
        ·subst hk0
         obtain⟨hl1,hh,q,_,hq2,hq3,hrun⟩:=cut_bounds (P:=P) (w:=w) (isl:=true) m hc (Nat.le_refl 0) hcut hbd
         have hr:=slice_run ho he hsz (hev.trans hv) hrun
         rw[show hI.toNat-l0.toNat=0 by omega]at hr
         exact fin _ hr (.nil _ _ _)
        ·obtain⟨_,hh,q,_,hq2,hq3,hrun⟩:=cut_bounds (P:=P) (w:=w) (isl:=true) m hc hle hcut hbd
         have hr:=slice_run ho he hsz (hev.trans hv) hrun
         rw[show hI.toNat-l0.toNat=0 by omega]at hr
         exact fin _ hr (.nil _ _ _)
       ·cases h
      ·cases h
     ·rename_i ds hdeep
      split at h
      ·rename_i k f hdk
       split at h
       ·rename_i lI hI m0 hcut
        split at h
        ·rename_i hsize
         have hsize:=of_decide_eq_true hsize
         simp only[Option.some.injEq]at h;subst h
         have hbd:=sdL_spec hs
         generalize hh':hI.toNat=h' at *
         generalize hl':lI.toNat=l at *
         have hden:DenC w (NF w0 β st.heap w) (.row k f) ((β ad.block).2 ad.off):=(m.mem.ok _ _ (hhp _ _ hdeep)) ad.off _ hdk
         have fin:∀(v':Value),(execOp a.eval o).run P w=.ok (.value v') w->DenC w (NF w0 β st.heap w) (.row (h'-l) λi=>f (i+l)) v'->o.wp P a w K Q:=λv' hrun hd=>by
          obtain⟨β',b1,b2,b3,b4⟩:=tell_post (v:=.one (.row (h'-l) λi=>f (i+l))) m.mem hf hn hd rfl
          refine wp_value hrun (hK β' v' w ⟨b1,b3.symm,b4,b2⟩)
         generalize (β ad.block).2 ad.off=v at hev hden
         cases hden with
         |nil _ oa cap=>
          obtain⟨h1,h2,q,_,_,_,hrun⟩:=cut_bounds (P:=P) (w:=w) (isl:=true) m hc (Nat.zero_le cap) hcut hbd
          rw[hh',hl']at h1 hrun
          rw[hh']at h2
          have hr:=slice_run ho he hsz hev hrun
          have h0:h'-l=0:=by omega
          rw[h0]at hr fin
          exact fin _ hr (.nil _ _ _)
         |row _ _ b off cap sz g hk hF hcl hd'=>
          obtain⟨h1,h2,q,h3,_,_,hrun⟩:=cut_bounds (P:=P) (w:=w) (isl:=true) m hc hk hcut hbd
          rw[hh',hl']at h1 hrun
          rw[hh']at h2 h3
          have hr:=slice_run ho he hsz hev hrun
          by_cases hz:h'-l=0
          ·rw[hz]at hr fin
           exact fin _ hr (.nil _ _ _)
          ·have hql:¬q=l:=by omega
           rw[if_neg hql]at hr
           have hk0:0<k:=by omega
           have hss:sz=size:=by
            have:=(hcl 0 hk0).1
            rcases hsize with z|z<;>omega
           subst hss
           refine fin _ hr ?_
           have e1:(Option.map (λx:Addr=>x.add (l*sz)) (some (⟨b,off,none⟩:Addr)))=some ⟨b,off+l*sz,none⟩:=by simp[Addr.add]
           rw[e1]
           refine .row (h'-l) _ b (off+l*sz) (q-l) sz (λi j=>g (i+l) j) (by omega) hF (λi hi=>⟨(hcl (i+l) (by omega)).1,λj hj=>?_⟩) (λi j hi hj=>hd' (i+l) j (by omega) hj)
           have:=(hcl (i+l) (by omega)).2 j hj
           rw[show off+l*sz+i*sz+j=off+(i+l)*sz+j by rw[Nat.add_mul];omega]
           exact this
        ·cases h
       ·cases h
      ·cases h
     ·cases h
    ·cases h
   ·cases h
  ·
   rename_i t x y ho
   obtain⟨hf,hn⟩:=hfr (by simp[makes,ho])
   split at h
   ·rename_i e ki i kj j he hx hy _
    split at h
    ·rename_i size b z hsz hb hz
     split at h
     ·rename_i hdec hfl
      simp only[Option.some.injEq]at h;subst h
      obtain⟨h1,h2,h3,h4,h5⟩:=of_decide_eq_true hdec
      simp only[Bool.and_eq_true]at hfl
      refine makeSlice_core (ds:=z.cells.toList.map .p) m hc hf hn ho he hx hy hsz hb hz h1 ?_ (by simp[h1]) ⟨h2,h3,h4,h5⟩ (λβ' u w' sides hp=>hK β' u w' ⟨hp.keep,hp.den,hp.nm,hp.mem⟩)
      have:∀(l:List Value),(∀v∈l,oneCellB v=true)->DenL w (NF w0 β st.heap w) (l.map .p) l:=by
       intro l
       induction l with
       |nil=>intro _;trivial
       |cons v l ih=>intro hv;exact⟨.p v (hv v (by simp)),ih λy hy=>hv y (by simp[hy])⟩
      exact this _ (λv hv=>List.all_eq_true.1 hfl.2 v hv)
     ·cases h
    ·cases h
   ·cases h
  ·cases h
theorem makeOne_run{t size b:Nat}{x y:Operand}{e:TypeId}{ki kj:IntKind}(m:M w0 β st a w)(hc:holds st.slots cs)(ho:o.op=.makeSlice t x y)
  (he:sliceOf P t=some e) (hx:plain (evS st.slots cs x)=some (.int ki 1)) (hy:plain (evS st.slots cs y)=some (.int kj 1)) (hs:sizeO P e=some (size+1)) (hb:bytesO P e=some b) {z:Value} (hzz:(P.info? e).bind (·.zero)=some z) (hzl:z.cells.size=size+1)
  (h3:(b:Int)*1<=281474976710656):(execOp a.eval o).run P w=.ok (.value (.slice (some ⟨w.heap.size,0,none⟩) 1 1)) (push w (.cells z.cells e)):=by
 have hx':=eval_plain m hc hx
 have hy':=eval_plain m hc hy
 unfold sliceOf at he
 split at he
 ·rename_i e' hu
  simp only[Option.some.injEq]at he;subst he
  have hinfo:∃inf,P.info? e'=some inf/\inf.bytes=b:=by
   unfold bytesO at hb
   cases hi:P.info? e' with
   |none=>rw[hi]at hb;cases hb
   |some inf=>rw[hi]at hb;exact⟨inf,rfl,by simpa using hb⟩
  obtain⟨inf,hi1,hi2⟩:=hinfo
  have w1:IntKind.i64.wrap 1=1:=by decide
  have t1:(decide ((1:Int)<0)||decide ((b:Int)*1>2 ^ 48))=false:=by
   rw[decide_eq_false (by omega),decide_eq_false (by
                             have:(2:Int) ^ 48=281474976710656:=by decide
                             omega)];rfl
  have cond:((decide ((1:Int)<0)||decide ((b:Int)*1>2 ^ 48))||decide ((1:Int)<0)||decide ((1:Int)>1))=false:=by
   rw[t1];decide
  have hcells:(Array.range (1*(size+1))).map (z.cells[· % z.cells.size]!)=z.cells:=by
   apply Array.ext
   ·simp[hzl]
   ·intro q h1 h2
    simp only[Array.getElem_map,Array.getElem_range,hzl]
    have hq:q<size+1:=by simpa using h1
    rw[Nat.mod_eq_of_lt hq,getElem!_pos z.cells q h2]
  simp only[execOp,ho,hx',hy',Instr.makeSlice,Sem.run_bind,underlying,run_program,hu,Sem.run_pure,Result.andThen_ok,asInt,asIntOf,typeInfo,hi1,hi2,w1,cond,Bool.false_eq_true,if_false,run_askRoom,sizeOf_run hs]
  have e1:Int.toNat 1=1:=rfl
  rw[e1]
  have hj0:¬(1*(size+1)=0):=by omega
  rw[if_neg hj0]
  simp only[Sem.run_pure,Result.andThen_ok,newRow,run_newObj,Sem.run_bind,zero_run hzz]
  rw[hcells]
  rfl
 ·cases he
theorem opCs_sound{X:Tabs}{fresh:Nat}(m:M w0 β st a w)(hc:holds st.slots cs)(hfr:makes X o=true->fresh<st.heap.length/\st.heap.getD fresh none=none)
  (h:opCs P X (evS st.slots cs) fresh o=some r) (hs:allP r.sides) (hK:∀β' u w',Post w0 β st.slots st.heap r u β' w'->K (a.put o.dst u) w'):o.wp P a w K Q:=by
 unfold opCs at h
 split at h
 ·cases h
 ·split at h
  ·rename_i t x y ho
   obtain⟨hf,hn⟩:=hfr (by simp[makes,ho])
   split at h
   ·rename_i e ki i kj j he hx hy
    split at h
    ·rename_i size b z hsz hb hz
     split at h
     ·rename_i hdec hfl
      simp only[Option.some.injEq]at h;subst h
      obtain⟨h1,rfl,rfl,h5⟩:=of_decide_eq_true hdec
      have hpost:=new_post (w:=w) m hf hn e z.cells.toList λv hv k hk=>by rw[refs0_flat (allB_iff.1 hfl v hv)]at hk;cases hk
      refine wp_value (makeOne_run m hc ho he hx hy hsz hb hz h1 h5) (hK (bump β fresh (w.heap.size,λ_=>.bool false)) _ _ ⟨hpost.keep,?_,λq hq=>?_,?_⟩)
      ·show _=ren _ _
       simp only[ren,ren1,ren0,renP]
       rw[bump_at]
      ·simp only[names,refs,refs1,refs0,refsP,List.mem_singleton]at hq;subst hq
       exact⟨.cells e z.cells.toList,by simp only[heapSet];rw[getD_set'',if_pos ⟨rfl,hf⟩]⟩
      ·have:=hpost.mem
       rw[map_id_of λy hy=>ren0_flat (allB_iff.1 hfl y hy),Array.toArray_toList]at this
       exact this
     ·cases h
    ·cases h
   ·cases h
  ·rename_i t x y ho
   split at h
   ·rename_i ad n c ki i e hx hy he
    split at h
    ·rename_i size hsp hsz hdec
     simp only[Option.some.injEq]at h;subst h
     have hi:=of_decide_eq_true hdec
     have hd:=Den_eval m hc x
     have hnm:=λq=>names_ev (cs:=cs) m (x:=x) (n:=q)
     rw[hx]at hd hnm
     obtain⟨b,q,sp⟩:=ad
     dsimp only at hsp
     subst hsp
     have hx':a.eval x=.slice (some ⟨(β b).1,q,none⟩) n c:=hd
     refine wp_value (indexR_run ho hx' (eval_plain m hc hy) he hsz hi.1 hi.2) (hK β _ w (Post.same m rfl rfl (λz hz=>?_)))
     simp only[names,refs,refs1,refs0,refsP,List.mem_singleton]at hz;subst hz
     exact hnm _ (by simp[names,refs,refs1,refs0,refsP])
    ·cases h
   ·cases h
  ·rename_i t x lo hi ho
   split at h
   ·rename_i ad n c e hx he
    split at h
    ·rename_i size l h' m0 hsp hsz hcut
     split at h
     ·rename_i hdec
      simp only[Option.some.injEq]at h;subst h
      obtain⟨h1,h2,h3,h4⟩:=of_decide_eq_true hdec
      have hd:=Den_eval m hc x
      have hnm:=λq=>names_ev (cs:=cs) m (x:=x) (n:=q)
      rw[hx]at hd hnm
      obtain⟨b,q,sp⟩:=ad
      dsimp only at hsp
      subst hsp
      have hx':a.eval x=.slice (some ⟨(β b).1,q,none⟩) n c:=hd
      have hnc:n<=c:=by omega
      have hm0:m0=(n:Int):=by
       have hcut':=hcut
       unfold cutOf at hcut'
       split at hcut'
       ·rename_i a1 a2 a3
        simp only[Option.some.injEq,Prod.mk.injEq]at hcut' a3
        omega
       ·cases hcut'
      have hbd:0<=l/\l<=h'/\h'<=m0/\m0<=(n:Int):=⟨h2,by omega,by omega,by omega⟩
      obtain⟨b1,b2,q0,b3,b4,b5,hrun⟩:=cut_bounds (P:=P) (w:=w) (isl:=true) m hc hnc hcut hbd
      have hr:=slice_run ho he hsz hx' hrun
      have hq0:q0=c:=b5 rfl
      subst hq0
      have e1:l.toNat=q0:=by omega
      have e2:h'.toNat=q0:=by omega
      rw[e1,e2]at hr
      simp only[if_true,Nat.sub_self]at hr
      refine wp_value hr (hK β _ w (Post.same m rfl rfl (λz hz=>?_)))
      simp only[names,refs,refs1,refs0,refsP,List.mem_singleton]at hz;subst hz
      exact hnm _ (by simp[names,refs,refs1,refs0,refsP])
     ·cases h
    ·cases h
   ·cases h
  ·rename_i args ts ho
   split at h
   ·rename_i x t ha hat
    split at h
    ·rename_i ad n c e hx he
     split at h
     ·rename_i hsp
      simp only[Option.some.injEq]at h;subst h
      have hd:=Den_eval m hc x
      rw[hx]at hd
      obtain⟨b,q,sp⟩:=ad
      dsimp only at hsp
      subst hsp
      have hx':a.eval x=.slice (some ⟨(β b).1,q,none⟩) n c:=hd
      have e1:args = #[x]:=by apply Array.ext';rw[ha]
      have e2:ts = #[t]:=by apply Array.ext';rw[hat]
      subst e1;subst e2
      unfold sliceOf at he
      split at he
      ·rename_i e' hu
       refine wp_value (u:=.int .i64 (n:Int)) ?_ (hK β _ w (Post.same m rfl rfl (λz hz=>by simp[names,refs,refs1,refs0,refsP]at hz)))
       simp only[execOp,ho,Go.resolve,invoke,builtin,Builtin.len_,Sem.run_bind,Sem.run_pure,Result.andThen_ok,List.map_toArray,List.map_cons,List.map_nil,hx',underlying,run_program,hu]
       simp[goInt,underlying,hu]
      ·cases he
     ·cases h
    ·cases h
   ·cases h
  ·cases h
end
section
variable{P:Program}{w0:Base P}{w:World}{β:Env}{st:St}{a:Act}{cs:List (Nat×Bool)}{o:Oper}{r:Res}{K:Act->World->Prop}{Q:Exit->Act->World->Prop}
theorem callFlat_sound{X:Tabs}(ht:TabsOk P X){F:Nat}{vs:List Value}{u:Value}{ps:List Prop}(m:M w0 β st a w)(hrun:(execOp a.eval o).run P w=(callFunc F vs.toArray).run P w)(h:X.tb F vs=some (u,ps))(hf:flat u=true)(hs:allP ps)
  (hK:∀β' v w',Post w0 β st.slots st.heap {val:=.v u,upd:=[],sides:=ps} v β' w'->K (a.put o.dst v) w'):o.wp P a w K Q:=by
 have hcall:=ht.tb F vs u ps h hs w
 have hpost:∀w',Below w.heap.size w w'->Post w0 β st.slots st.heap {val:=.v u,upd:=[],sides:=ps} u β w':=λw' hb=>
  ⟨λ_ _ _=>rfl,(ren_flat hf).symm,λk hk=>(by simp only[names]at hk;rw[refs_flat hf]at hk;cases hk),m.mem.call hb⟩
 unfold Oper.wp
 rw[hrun]
 split at hcall
 ·rename_i u' w' hr
  rw[hr]
  obtain⟨rfl,hb⟩:=hcall
  exact hK β _ w' (hpost w' hb)
 ·rename_i f' az w' hr
  rw[hr]
  obtain⟨rfl,hcs⟩:=hcall
  exact hcs.mono λe w'' ⟨he,hb⟩=>by subst he;exact hK β _ w'' (hpost w'' hb)
 ·exact hcall.elim
theorem opRes0_sound{X:Tabs}(ht:TabsOk P X){fresh:Nat}(m:M w0 β st a w)(hc:holds st.slots cs)(hfr:makes X o=true->fresh<st.heap.length/\st.heap.getD fresh none=none)
  {hp:Nat->Option HE} (hhp:∀n c,hp n=some c->st.heap.getD n none=some c)
  (h:opRes0 P X (evS st.slots) hp fresh cs o=some r) (hs:allP r.sides) (hK:∀β' u w',Post w0 β st.slots st.heap r u β' w'->K (a.put o.dst u) w'):o.wp P a w K Q:=by
 unfold opRes0 at h
 split at h
 ·rename_i c x y ho
  exact pick_sound m hc h ho hK
 ·rename_i x ho
  simp only[Option.some.injEq]at h;subst h
  exact wp_value (u:=a.eval x) (by simp only[execOp,ho,Sem.run_pure]) (hK β _ w (Post.same m rfl (Den_eval m hc x) (λk hk=>names_ev m hk)))
 ·rename_i x ho
  simp only[Option.some.injEq]at h;subst h
  exact wp_value (u:=a.eval x) (by simp only[execOp,ho,Sem.run_pure]) (hK β _ w (Post.same m rfl (Den_eval m hc x) (λk hk=>names_ev m hk)))
 ·rename_i t ho
  obtain⟨hf,hn⟩:=hfr (by simp[makes,ho])
  split at h
  ·rename_i z hz
   split at h
   ·rename_i hfl
    simp only[Option.some.injEq]at h;subst h
    exact alloc_sound m hf hn ho hz hfl hK
   ·cases h
  ·cases h
 ·rename_i t x ho
  obtain⟨hf,hn⟩:=hfr (by simp[makes,ho])
  split at h
  ·rename_i u hu
   split at h
   ·rename_i h1
    simp only[Option.some.injEq]at h;subst h
    exact box_sound m hc hf hn ho hu h1 hK
   ·cases h
  ·cases h
 ·rename_i t x ho
  split at h
  ·rename_i p hp'
   exact load_sound hhp m hc ho (λhd=>hfr (by simp[makes,ho,hd])) hp' h hK
  ·cases h
 ·rename_i t x y ho
  split at h
  ·rename_i p u hp' hu
   exact store_sound hhp m hc ho hp' hu h hK
  ·cases h
 ·rename_i s x f ho
  exact field_sound hhp m hc h ho hK
 ·rename_i t x y ho
  exact index_sound hhp m hc h hs ho hK
 ·rename_i t parts ho
  split at h
  ·rename_i vs fields z hv hu hz
   split at h
   ·rename_i places hpl
    split at h
    ·rename_i hall
     simp only[Bool.and_eq_true]at hall
     split at h
     ·rename_i cells hfill
      simp only[Option.some.injEq]at h;subst h
      exact build_sound m hc ho hv hu hz hpl hall.1 hall.2 hfill hK
     ·cases h
    ·cases h
   ·cases h
  ·exact plainRes_sound m hc h hK
  ·cases h
 ·rename_i x i ho
  split at h
  ·rename_i vs hx
   split at h
   ·cases h
   ·rename_i u hnt hi
    simp only[Option.some.injEq]at h;subst h
    exact extract_sound m hc ho hx hi (λq e=>hnt q e) hK
   ·cases h
  ·exact plainRes_sound m hc h hK
 ·rename_i t x f ho
  split at h
  ·rename_i vs fd hx hfd
   split at h
   ·rename_i u hu
    split at h
    ·rename_i h1
     simp only[Option.some.injEq]at h;subst h
     exact fieldV_sound m hc ho hx hfd hu h1 hK
    ·cases h
   ·cases h
  ·cases h
 ·rename_i F first caps ho
  split at h
  ·rename_i vs hf hv
   split at h
   ·rename_i hall
    simp only[Bool.and_eq_true]at hall
    simp only[Option.some.injEq]at h;subst h
    exact makeFunc_sound m hc ho hf hv hall.1 hall.2 hK
   ·cases h
  ·cases h
 ·rename_i t len parts ho
  obtain⟨hf,hn⟩:=hfr (by simp[makes,ho])
  split at h
  ·rename_i e vs he hv
   split at h
   ·rename_i size z hsz hz
    split at h
    ·cases h
    ·rename_i hb
     split at h
     ·cases h
     ·rename_i hb0
      split at h
      ·rename_i hall
       simp only[Bool.and_eq_true]at hall
       split at h
       ·rename_i cells hfill
        split at h
        ·rename_i ds l hds hl
         simp only[Option.some.injEq]at h;subst h
         exact buildSlice_sound hhp m hc hf hn ho he hv hsz hz hb hb0 hall.1 hall.2 hfill hds hl hK
        ·cases h
       ·cases h
      ·cases h
   ·cases h
  ·cases h
 ·rename_i t x y ho
  obtain⟨hf,hn⟩:=hfr (by simp[makes,ho])
  split at h
  ·rename_i e ki i kj j he hx hy
   split at h
   ·rename_i size b ds hsz hb hz
    split at h
    ·rename_i hl
     simp only[Option.some.injEq]at h;subst h
     exact makeSlice_sound m hc hf hn ho he hx hy hsz hb hz hl hs.1 (λβ' u w' sides hp=>hK β' u w' ⟨hp.keep,hp.den,hp.nm,hp.mem⟩)
    ·cases h
   ·cases h
  ·cases h
 ·rename_i args argTypes ho
  split at h
  ·rename_i x t ha hat
   split at h
   ·rename_i ad n c e hx he
    split at h
    ·rename_i k f hr
     simp only[Option.some.injEq]at h;subst h
     have hd:=Den_eval m hc x
     rw[hx]at hd
     exact len_sound hhp m ho ha hat hd he hr (hK β _ w (Post.same m rfl rfl (λk hk=>by simp[names,refs,refs1,refs0,refsP]at hk)))
    ·cases h
   ·rename_i e hx he
    simp only[Option.some.injEq]at h;subst h
    have hd:=Den_eval m hc x
    rw[hx]at hd
    exact len_sound (u:=.slice none 0 0) (k:=0) (f:=λ_=>[]) hhp m ho ha hat hd he rfl (hK β _ w (Post.same m rfl rfl (λk hk=>by simp[names]at hk)))
   ·rename_i e hx he
    simp only[Option.some.injEq]at h;subst h
    have hd:=Den_eval m hc x
    rw[hx]at hd
    exact len_sound (u:=.slice none 0 0) (k:=0) (f:=λ_=>[]) hhp m ho ha hat hd he rfl (hK β _ w (Post.same m rfl rfl (λk hk=>by simp[names]at hk)))
   ·exact plainRes_sound m hc h hK
  ·cases h
 ·rename_i args argTypes ho
  obtain⟨hf,hn⟩:=hfr (by simp[makes,isDeepCall,ho])
  split at h
  ·rename_i x y t t' ha hat
   split at h
   ·rename_i u v e hx hy he
    split at h
    ·rename_i htt
     subst htt
     split at h
     ·rename_i n f l k g size b z hown hrow hsz hb hz
      split at h
      ·rename_i hall
       split at h
       ·rename_i l' hl
        simp only[Option.some.injEq]at h;subst h
        exact append_sound hhp m hc hf hn ho ha hat hx hy he hown hrow hsz hb hz hall.1 hall.2 hl (sdL_spec hs).1 (sdL_spec hs).2 (λβ' u w' sides hp=>hK β' u w' ⟨hp.keep,hp.den,hp.nm,hp.mem⟩)
       ·cases h
      ·cases h
     ·cases h
    ·cases h
   ·cases h
  ·cases h
 ·rename_i F args ts ho
  split at h
  ·rename_i u ps hq
   split at h
   ·rename_i hfl
    simp only[Option.some.injEq]at h;subst h
    split at hq
    ·rename_i vs hvs
     refine callFlat_sound ht m ?_ hq hfl hs hK
     have hargs:args.map a.eval=vs.toArray:=by
      obtain⟨h1,h2⟩:=plains_spec hvs
      apply Array.ext'
      rw[Array.toList_map,h1]
      exact List.map_congr_left λx hx=>eval_plain m hc (h2 x hx)
     simp only[execOp,ho,Go.resolve,Deferred.ofValue,Act.eval,Sem.run_bind,Sem.run_pure,Result.andThen_ok,invoke,hargs]
     simp
    ·cases hq
   ·cases h
  ·split at h
   ·rename_i vs hvs
    refine callAll_sound ht hhp m (λhd=>hfr (by simp[makes,isDeepCall,ho,hd])) ?_ h hs hK
    have hargs:args.map a.eval=(vs.map (ren β)).toArray:=by
     apply Array.ext'
     rw[Array.toList_map,(nameds_spec m hc hvs).1]
    simp only[execOp,ho,Go.resolve,Deferred.ofValue,Act.eval,Sem.run_bind,Sem.run_pure,Result.andThen_ok,invoke,hargs]
    simp
   ·cases h
 ·rename_i t args ts ho
  have hd:=Den_eval m hc (.tmp t)
  split at h
  ·rename_i F fst caps vs hx hvs
   rw[hx]at hd
   split at h
   ·rename_i hf hdr
    split at h
    ·rename_i hall
     simp only[Bool.and_eq_true]at hall
     have hargs:args.map a.eval=(vs.map (ren β)).toArray:=by
      apply Array.ext'
      rw[Array.toList_map,(nameds_spec m hc hvs).1]
     have hcaps:(caps.toList.map (renP β))=caps.toList.map (ren β):=List.map_congr_left λv hv=>by
      have a1:=List.all_eq_true.1 hall.1 v hv
      have a2:=List.all_eq_true.1 hall.2 v hv
      cases v<;>first|rfl|(simp at a2;done)|(cases a1;done)
     have hfst:fst = #[]:=by apply Array.ext';rw[hf]
     subst hfst
     have hev:a.eval (.tmp t)=.func (.func F) #[] (caps.toList.map (ren β)).toArray:=by
      rw[←hcaps];exact hd
     refine callAll_sound ht hhp m (λhd'=>hfr (by rw[hd']at hdr;simp[makes,isDeepCall,ho,hdr])) ?_ h hs hK
     simp only[execOp,ho,Go.resolve,Deferred.ofValue,hev,Sem.run_bind,Sem.run_pure,Result.andThen_ok,invoke,hargs]
     simp
    ·cases h
   ·cases h
  ·rename_i F fst caps vs hx hvs
   rw[hx]at hd
   split at h
   ·rename_i hf hcp hdr
    have hfst:fst = #[]:=by apply Array.ext';rw[hf]
    have hcap:caps = #[]:=by apply Array.ext';rw[hcp]
    subst hfst;subst hcap
    have hev:a.eval (.tmp t)=.func (.func F) #[] #[]:=hd
    split at h
    ·rename_i u ps hq
     split at h
     ·rename_i hfl
      simp only[Option.some.injEq]at h;subst h
      split at hq
      ·rename_i ws hws
       refine callFlat_sound ht m ?_ hq hfl hs hK
       have hargs:args.map a.eval=ws.toArray:=by
        obtain⟨h1,h2⟩:=plains_spec hws
        apply Array.ext'
        rw[Array.toList_map,h1]
        exact List.map_congr_left λx hx=>eval_plain m hc (h2 x hx)
       simp only[execOp,ho,Go.resolve,Deferred.ofValue,hev,Sem.run_bind,Sem.run_pure,Result.andThen_ok,invoke,hargs]
       simp
      ·cases hq
     ·cases h
    ·refine callAny_sound ht hhp m (λhd'=>by rw[hdr]at hd';cases hd') ?_ h hs hK
     have hargs:args.map a.eval=(vs.map (ren β)).toArray:=by
      apply Array.ext'
      rw[Array.toList_map,(nameds_spec m hc hvs).1]
     simp only[execOp,ho,Go.resolve,Deferred.ofValue,hev,Sem.run_bind,Sem.run_pure,Result.andThen_ok,invoke,hargs]
     simp
   ·cases h
  ·cases h
 ·rename_i op t x y ty ho
  have key:∀(q:BinOp) (i j:Int) (k k':IntKind) (u:Value),(q=.quo\/q=.rem)->op=q->plain (evS st.slots cs x)=some (.int k i)->plain (evS st.slots cs y)=some (.int k' j)->k=k'->flat u=true->
    (Op.intDiv q k i j).run P w=.ok u w->r = {val:=.v u,upd:=[],sides:=[j≠0]}->o.wp P a w K Q:=by
   intro q i j k k' u hq he hx hy hk hfu hrun hr
   subst hr;subst he;subst hk
   refine wp_value (u:=u) ?_ (hK β _ w (Post.same m rfl (ren_flat hfu).symm (λk hk=>by simp only[names]at hk;rw[refs_flat hfu]at hk;cases hk)))
   rcases hq with rfl|rfl<;>simp only[execOp,ho,eval_plain m hc hx,eval_plain m hc hy,binOp,eqGuard,Sem.run_bind,Sem.run_pure,ne_eq,not_true_eq_false,if_false]<;>simp[hrun]
  split at h
  ·rename_i k i k' j hx hy _
   split at h
   ·rename_i hk
    simp only[Option.some.injEq]at h
    refine key .quo i j k k' (.int k (k.wrap (i.tdiv j))) (.inl rfl) rfl hx hy hk rfl ?_ h.symm
    have hj:j≠0:=by subst h;exact hs.1
    simp only[Op.intDiv,hj,if_false,Sem.run_pure]
   ·cases h
  ·rename_i k i k' j hx hy _
   split at h
   ·rename_i hk
    simp only[Option.some.injEq]at h
    refine key .rem i j k k' (.int k (i.tmod j)) (.inr rfl) rfl hx hy hk rfl ?_ h.symm
    have hj:j≠0:=by subst h;exact hs.1
    simp only[Op.intDiv,hj,if_false,Sem.run_pure]
   ·cases h
  ·rename_i k i k' j hx hy _
   simp only[Option.some.injEq]at h;subst h
   refine wp_value (u:=.int k (k.wrap (i*2 ^ min j.toNat k.bits))) ?_ (hK β _ w (Post.same m rfl (ren_flat rfl).symm (λz hz=>by simp[names,refs,refs1,refs0,refsP]at hz)))
   have hj:¬j<0:=Int.not_lt.2 hs.1
   simp only[execOp,ho,eval_plain m hc hx,eval_plain m hc hy,binOp,eqGuard,Sem.run_bind,Sem.run_pure]
   simp[Op.shift,hj]
  ·rename_i u v hx hy
   split at h
   ·rename_i b hb
    simp only[Option.some.injEq]at h;subst h
    refine wp_value (u:=.bool b) ?_ (hK β _ w (Post.same m rfl rfl (λk hk=>by simp[names,refs,refs1,refs0,refsP]at hk)))
    simp only[execOp,ho,eval_plain m hc hx,eval_plain m hc hy,Sem.run_bind,eqOf_guard hb,Result.andThen_ok,run_eql_struct,eqOf_run hb,Sem.run_pure]
   ·cases h
  ·rename_i u v hx hy
   split at h
   ·rename_i b hb
    simp only[Option.some.injEq]at h;subst h
    refine wp_value (u:=.bool (!b)) ?_ (hK β _ w (Post.same m rfl rfl (λk hk=>by simp[names,refs,refs1,refs0,refsP]at hk)))
    simp only[execOp,ho,eval_plain m hc hx,eval_plain m hc hy,Sem.run_bind,eqOf_guard hb,Result.andThen_ok,run_neq_struct,eqOf_run hb,Sem.run_pure]
   ·cases h
  ·exact plainRes_sound m hc h hK
 ·rename_i x ho
  split at h
  ·rename_i hn
   simp only[Option.some.injEq]at h;subst h
   obtain⟨ad,ha⟩:=nilOk_eval (Den_eval m hc x) hn
   exact wp_value (u:=a.eval x) (by simp only[execOp,ho,ha,Sem.run_pure]) (hK β _ w (Post.same m rfl (Den_eval m hc x) (λk hk=>names_ev m hk)))
  ·exact plainRes_sound m hc h hK
 ·exact plainRes_sound m hc h hK
theorem kRes_sides(r:Res):(kRes r).sides=r.sides:=by
 unfold kRes
 split
 ·split<;>rfl
 ·rfl
theorem opRes_sound{X:Tabs}(ht:TabsOk P X){fresh:Nat}(m:M w0 β st a w)(hc:holds st.slots cs)(hfr:makes X o=true->fresh<st.heap.length/\st.heap.getD fresh none=none)
  {hp:Nat->Option HE} (hhp:∀n c,hp n=some c->st.heap.getD n none=some c)
  (h:opRes P X (evS st.slots) hp fresh cs o=some r) (hs:allP r.sides) (hK:∀β' u w',Post w0 β st.slots st.heap r u β' w'->K (a.put o.dst u) w'):o.wp P a w K Q:=by
 unfold opRes at h
 split at h
 ·rename_i r' hr
  simp only[Option.some.injEq]at h;subst h
  exact opMk_sound ht m hc hfr hr hK
 split at h
 ·rename_i r' hr
  simp only[Option.some.injEq]at h;subst h
  exact opSl_sound m hc hfr hhp hr hs hK
 split at h
 ·rename_i r' hr
  simp only[Option.some.injEq]at h;subst h
  exact opOw_sound ht m hc hfr hhp hr hs hK
 split at h
 ·rename_i r' hr
  simp only[Option.some.injEq]at h;subst h
  exact opGv_sound ht m hc hfr hhp hr hs hK
 split at h
 ·rename_i r' hr
  unfold kResO at h
  split at h
  ·rename_i r2 hr2
   simp only[Option.some.injEq]at hr2;subst hr2
   split at h
   ·simp only[Option.some.injEq]at h;subst h
    exact opCs_sound m hc hfr hr (by rw[kRes_sides]at hs;exact hs) λβ' u w' hp=>hK β' u w' hp.kRes
   ·simp only[Option.some.injEq]at h;subst h
    exact opCs_sound m hc hfr hr hs hK
  ·cases h
 split at h
 ·rename_i r' hr
  unfold kResO at h
  split at h
  ·rename_i r2 hr2
   simp only[Option.some.injEq]at hr2;subst hr2
   split at h
   ·simp only[Option.some.injEq]at h;subst h
    exact opCl_sound m hc hfr hhp hr (by rw[kRes_sides]at hs;exact hs) λβ' u w' hp=>hK β' u w' hp.kRes
   ·simp only[Option.some.injEq]at h;subst h
    exact opCl_sound m hc hfr hhp hr hs hK
  ·cases h
 split at h
 ·unfold kResO at h
  split at h
  ·rename_i r' hr
   split at h
   ·simp only[Option.some.injEq]at h;subst h
    exact opRes0_sound ht m hc hfr hhp hr (by rw[kRes_sides]at hs;exact hs) (λβ' u w' hp=>hK β' u w' hp.kRes)
   ·simp only[Option.some.injEq]at h;subst h
    exact opRes0_sound ht m hc hfr hhp hr hs hK
  ·cases h
 ·split at h
  ·rename_i r' hr
   simp only[Option.some.injEq]at h;subst h
   exact opNew_sound ht m hc hfr hhp hr hs hK
  ·split at h
   ·rename_i r' hr
    simp only[Option.some.injEq]at h;subst h
    exact opRes0_sound ht m hc hfr hhp hr (by rw[kRes_sides]at hs;exact hs) (λβ' u w' hp=>hK β' u w' hp.kRes)
   ·cases h
end
def hpOf(h:List (Option HE))(t:Tch)(n:Nat):Option HE:=if t.1.contains n||t.2.contains n then h.getD n none else none
def gslot(l:List SV)(d:Nat)(cs:List (Nat×Bool)):Bool:=
 match l[d]? with
 |some (.k (.bool _))=>cs.isEmpty
 |some (.v (.bool _))=>cs.isEmpty
 |some (.g cs' (.k (.bool _)))=>cs'==cs
 |some (.g cs' (.v (.bool _)))=>cs'==cs
 |_=>false
def condP(l:List SV):List (Nat×Bool)->Prop
 |[]=>True
 |c::cs=>boolAt l c.1=some c.2/\condP l cs
theorem namesL_mem{ev:Operand->SV}{n:Nat}:∀{l:List Operand},n∈namesL ev l->∃x∈l,n∈names (ev x)
 |[],h=>by cases h
 |x::l,h=>by
  simp only[namesL,List.mem_append]at h
  rcases h with h|h
  ·exact⟨x,by simp,h⟩
  ·obtain⟨y,hy,hn⟩:=namesL_mem h
   exact⟨y,by simp[hy],hn⟩
theorem condP_holds{l:List SV}{cs:List (Nat×Bool)}(h:holds l cs):condP l cs:=by
 induction cs with
 |nil=>trivial
 |cons c cs ih=>exact⟨h c (by simp),ih λd hd=>h d (by simp[hd])⟩
def cellRefs(hp:Nat->Option HE):List Nat->List Nat
 |[]=>[]
 |q::l=>(match hp q with
  |some (.cells _ cs)=>refsL refs0 cs
  |_=>[])++cellRefs hp l
theorem cellRefs_mem{hp:Nat->Option HE}{n:Nat}:∀{l:List Nat},n∈cellRefs hp l->∃q t cs v,hp q=some (.cells t cs)/\v∈cs/\n∈refs0 v
 |[],h=>by cases h
 |q::l,h=>by
  simp only[cellRefs,List.mem_append]at h
  rcases h with h|h
  ·split at h
   ·rename_i t cs hq
    obtain⟨v,hv,hn⟩:=refsL_mem.1 h
    exact⟨q,t,cs,v,hq,hv,hn⟩
   ·cases h
  ·exact cellRefs_mem h
def updIn(t:Tch):List (Nat×HE)->Bool
 |[]=>true
 |(n,_)::l=>t.2.contains n&&updIn t l
def updNew(h:Nat->Option HE)(fresh:Nat)(mk:Bool):List (Nat×HE)->Bool
 |[]=>true
 |(n,_)::l=>(mk&&Nat.beq n fresh||(h n).isSome)&&updNew h fresh mk l
def subN(a b:List Nat):Bool:=a.all λn=>b.contains n
theorem updIn_mem{t:Tch}:∀{l:List (Nat×HE)},updIn t l=true->∀n c,(n,c)∈l->n∈t.2
 |[],_,n,c,h=>by cases h
 |(k,e)::l,h,n,c,hm=>by
  simp only[updIn,Bool.and_eq_true]at h
  rcases List.mem_cons.1 hm with z|hm
  ·simp only[Prod.mk.injEq]at z;rw[z.1];simpa using h.1
  ·exact updIn_mem h.2 n c hm
theorem updNew_mem{h:Nat->Option HE}{fresh:Nat}{mk:Bool}:∀{l:List (Nat×HE)},updNew h fresh mk l=true->∀n c,(n,c)∈l->(n=fresh/\mk=true)\/∃d,h n=some d
 |[],_,n,c,h=>by cases h
 |(k,e)::l,hh,n,c,hm=>by
  simp only[updNew,Bool.and_eq_true,Bool.or_eq_true]at hh
  rcases List.mem_cons.1 hm with z|hm
  ·simp only[Prod.mk.injEq]at z
   rw[z.1]
   rcases hh.1 with⟨h1,h2⟩|h1
   ·exact .inl ⟨Nat.eq_of_beq_eq_true h2,h1⟩
   ·exact .inr (Option.isSome_iff_exists.1 h1)
  ·exact updNew_mem hh.2 n c hm
def onB(l:List SV):List (Nat×Bool)->Bool
 |[]=>true
 |c::cs=>(match l[c.1]? with
  |some (.k (.bool b))=>b==c.2
  |_=>false)&&onB l cs
def dropOn(l:List SV):List (Nat×Bool)->List (Nat×Bool)
 |[]=>[]
 |c::cs=>match (match l[c.1]? with
  |some (.k (.bool b))=>b==c.2
  |_=>false)with
  |true=>dropOn l cs
  |false=>c::cs
theorem dropOn_mem{l:List SV}:∀{cs:List (Nat×Bool)} {c:Nat×Bool},c∈dropOn l cs->c∈cs
 |[],_,h=>h
 |x::cs,c,h=>by
  simp only[dropOn]at h
  split at h
  ·exact List.mem_cons_of_mem _ (dropOn_mem h)
  ·exact h
theorem dropOn_holds{l:List SV}:∀{cs:List (Nat×Bool)},holds l (dropOn l cs)->holds l cs
 |[],h=>h
 |x::cs,h=>by
  simp only[dropOn]at h
  split at h
  ·rename_i hx
   intro c hc
   rcases List.mem_cons.1 hc with rfl|hc
   ·split at hx
    ·rename_i b hb
     unfold boolAt
     rw[hb]
     have:b=c.2:=by simpa using hx
     rw[this]
    ·cases hx
   ·exact dropOn_holds h c hc
  ·exact h
theorem dropOn_set{l:List SV}{d:Nat}{s:SV}:∀{cs:List (Nat×Bool)},(∀c∈cs,c.1≠d)->dropOn (l.set d s) cs=dropOn l cs
 |[],_=>rfl
 |c::cs,h=>by
  simp only[dropOn]
  rw[dropOn_set λx hx=>h x (by simp[hx]),List.getElem?_set_ne (Ne.symm (h c (by simp)))]
def offB(l:List SV)(ops:Array Oper)(o:Oper):Bool:=
 match o.guard with
 |none=>false
 |some (g,want)=>match (ops[g]?).bind (·.dst)with
  |some d=>match l[d]? with
   |some (.k (.bool b))=>!(b==want)
   |some (.k _)=>true
   |_=>false
  |none=>false
def pinRes(X:Tabs)(j:Nat)(r:Res):Res:=
 match X.pin j,r.val with
 |some q,.v (.bool x)=>{val:=.k (.bool q),upd:=r.upd,sides:=(x=q)::r.sides}
 |_,_=>r
def core(P:Program)(X:Tabs)(ops:Array Oper)(base j:Nat)(o:Oper)(t:Tch)(st:St):Option Res:=
 match chainOf ops (ops.size+1) o with
 |none=>none
 |some cs=>
  if softT (hpOf st.heap t) (touchOf X (evS st.slots cs) (base+j) o)==t then
   match offB st.slots ops o with
   |true=>some {val:=.k undef,upd:=[],sides:=[]}
   |false=>
   match opRes P X (evS st.slots) (hpOf st.heap t) (base+j) cs o with
   |none=>none
   |some r=>
    if updIn t r.upd&&updNew (hpOf st.heap t) (base+j) (makes X o) r.upd && !isG r.val then
     match onB st.slots cs with
     |true=>some (pinRes X j r)
     |false=>
     match o.guard with
     |none=>none
     |some (g,want)=>
      match (ops[g]?).bind (·.dst),r.upd with
      |some d,[]=>
       if gslot st.slots d (dropOn st.slots cs).dropLast&&dropOn st.slots cs==(dropOn st.slots cs).dropLast++[(d,want)]&&subN (names r.val) (namesL (evS st.slots cs) o.op.operands.toList++cellRefs (hpOf st.heap t) (t.1++t.2))then
        some {val:=.g (dropOn st.slots cs) r.val,upd:=[],sides:=match r.sides with|[]=>[]|ss=>[condP st.slots cs->allP ss]}
       else none
      |_,_=>none
    else none
  else none
def dropF(d:Nat):List (Nat×Nat)->List (Nat×Nat)
 |[]=>[]
 |p::l=>bif Nat.beq p.1 d then dropF d l else p::dropF d l
def dropFix(dst:Option Nat)(l:List (Nat×Nat)):List (Nat×Nat):=
 match dst with
 |none=>l
 |some d=>dropF d l
theorem dropF_mem{d:Nat}{p:Nat×Nat}:∀{l:List (Nat×Nat)},p∈dropF d l↔p∈l/\p.1≠d
 |[]=>by simp[dropF]
 |q::l=>by
  simp only[dropF,List.mem_cons]
  cases hb:Nat.beq q.1 d with
  |true=>
   have hq:q.1=d:=Nat.eq_of_beq_eq_true hb
   rw[cond_true,dropF_mem (l:=l)]
   constructor
   ·exact λh=>⟨.inr h.1,h.2⟩
   ·rintro⟨rfl|h,k⟩
    ·exact absurd hq k
    ·exact⟨h,k⟩
  |false=>
   have hq:q.1≠d:=λe=>by rw[e,Nat.beq_refl]at hb;cases hb
   rw[cond_false,List.mem_cons,dropF_mem (l:=l)]
   constructor
   ·rintro(rfl|h)
    ·exact⟨.inl rfl,hq⟩
    ·exact⟨.inr h.1,h.2⟩
   ·rintro⟨rfl|h,k⟩
    ·exact .inl rfl
    ·exact .inr ⟨h,k⟩
theorem dropF_comm(d e:Nat):∀(l:List (Nat×Nat)),dropF d (dropF e l)=dropF e (dropF d l)
 |[]=>rfl
 |p::l=>by
  have ih:=dropF_comm d e l
  simp only[dropF]
  cases h1:Nat.beq p.1 d<;>cases h2:Nat.beq p.1 e<;>simp only[cond_true,cond_false,dropF,h1,h2,ih]
def St.put(st:St)(dst:Option Nat)(r:Res):St:=
 {slots:=match dst with|some d=>st.slots.set d r.val|none=>st.slots,heap:=heapSet st.heap r.upd,fix:=dropFix dst st.fix,keep:=st.keep}
theorem boolAt_set{l:List SV}{d t:Nat}{s:SV}(h:t≠d):boolAt (l.set d s) t=boolAt l t:=by
 unfold boolAt
 rw[List.getElem?_set_ne (Ne.symm h)]
section
variable{P:Program}{w0:Base P}{w:World}{β β':Env}{st:St}{a:Act}{o:Oper}{r:Res}{K:Act->World->Prop}{Q:Exit->Act->World->Prop}
theorem M_put{u:Value}{w':World}{dst:Option Nat}(m:M w0 β st a w)(hp:Post w0 β st.slots st.heap r u β' w')
  (hd:∀d,dst=some d->(∀i,∀c∈condsOf (st.slots.getD i .junk),c.1≠d)/\∀c∈condsOf r.val,c.1≠d):M w0 β' (st.put dst r) (a.put dst u) w':=by
 have keepD:∀i v,Den β st.slots (st.slots.getD i .junk) v->Den β' st.slots (st.slots.getD i .junk) v:=λi v hv=>
  Den_congr (λn hn=>by obtain⟨c,hc⟩:=m.locs i n hn;exact hp.keep n c hc) (λ_ _=>rfl) hv
 have keepN:∀n c,st.heap.getD n none=some c->∃c',(heapSet st.heap r.upd).getD n none=some c':=λn c hc=>heapSet_some _ _ hc
 have keepA:st.keep=true->∀n,w0.anc n->β' n=w0.env n/\∃c,(heapSet st.heap r.upd).getD n none=some c:=λhk n hn=>by
  obtain⟨e,c,hc⟩:=m.anc hk n hn
  exact⟨(hp.keep n c hc).trans e,keepN n c hc⟩
 cases dst with
 |none=>exact {defers:=m.defers,anc:=keepA,size:=m.size,slot:=λi v hv=>keepD i v (m.slot i v hv),locs:=λi n hn=>by obtain⟨c,hc⟩:=m.locs i n hn;exact keepN n c hc,mem:=hp.mem,tie:=m.tie}
 |some d=>
  obtain⟨h1,h2⟩:=hd d rfl
  have hb:∀t,t≠d->boolAt (st.slots.set d r.val) t=boolAt st.slots t:=λt ht=>boolAt_set ht
  refine {defers:=m.defers,anc:=keepA,size:=by simp[Act.put,St.put,m.size],slot:=λi v hv=>?_,locs:=λi n hn=>?_,mem:=hp.mem,tie:=λp hp'=>?_}
  ·simp only[Act.put,Array.getElem?_setIfInBounds]at hv
   show Den β' (st.slots.set d r.val) ((st.slots.set d r.val).getD i .junk) v
   rw[getD_set']
   by_cases e:d=i
   ·subst e
    by_cases hl:d<st.slots.length
    ·rw[if_pos ⟨rfl,hl⟩]
     rw[if_pos rfl,if_pos (by rw[m.size];exact hl)]at hv
     simp only[Option.some.injEq]at hv;subst hv
     exact Den_congr (λ_ _=>rfl) (λc hc=>hb c.1 (h2 c hc)) hp.den
    ·rw[if_pos rfl,if_neg (by rw[m.size];exact hl)]at hv;cases hv
   ·rw[if_neg (λx=>e x.1)]
    rw[if_neg e]at hv
    exact Den_congr (λ_ _=>rfl) (λc hc=>hb c.1 (h1 i c hc)) (keepD i v (m.slot i v hv))
  ·have hn':n∈names ((st.slots.set d r.val).getD i .junk):=hn
   rw[getD_set']at hn'
   split at hn'
   ·exact hp.nm n hn'
   ·obtain⟨c,hc⟩:=m.locs i n hn';exact keepN n c hc
  ·obtain⟨h3,h4⟩:=dropF_mem.1 hp'
   obtain⟨b,off,e1,e2⟩:=m.tie p h3
   refine⟨b,off,e1,?_⟩
   simp only[Act.put,Array.getElem?_setIfInBounds]
   rw[if_neg (Ne.symm h4)];exact e2
structure Inv(X:Tabs)(ops:Array Oper)(base:Nat)(L:Nat->Prop)(st:St):Prop where
 conds:∀i c,c∈condsOf (st.slots.getD i .junk)->∃j oj,ops[j]? = some oj/\L j/\oj.dst=some c.1
 fresh:∀j o,ops[j]? = some o->¬L j->makes X o=true->base+j<st.heap.length/\st.heap.getD (base+j) none=none
theorem hpOf_some{h:List (Option HE)}{t:Tch}{n:Nat}{c:HE}(hh:hpOf h t n=some c):h.getD n none=some c:=by
 unfold hpOf at hh;split at hh
 ·exact hh
 ·cases hh
theorem wanted_iff{ops:Array Oper}{g d:Nat}{want:Bool}{og:Oper}{cs:List (Nat×Bool)}(m:M w0 β st a w)(ho:o.guard=some (g,want))(hg:ops[g]? = some og)(hd:og.dst=some d)(hs:gslot st.slots d cs=true) :
  Region.wanted o (yielded ops a.tmps)=true↔holds st.slots (cs++[(d,want)]):=by
 unfold gslot at hs
 have lt:∀s,st.slots[d]? = some s->∃u,a.tmps[d]? = some u/\Den β st.slots s u:=λs hsd=>by
  have h1:d<st.slots.length:=(List.getElem?_eq_some_iff.1 hsd).1
  have h2:d<a.tmps.size:=by rw[m.size];exact h1
  refine⟨a.tmps[d],Array.getElem?_eq_getElem h2,?_⟩
  have:=m.slot d _ (Array.getElem?_eq_getElem h2)
  rwa [List.getD_eq_getElem?_getD,hsd]at this
 have plainCase:∀b,cs=[]->st.slots[d]? = some (.k (.bool b))\/st.slots[d]? = some (.v (.bool b))->(Region.wanted o (yielded ops a.tmps)=true↔holds st.slots (cs++[(d,want)])):=by
  intro b hc hb
  subst hc
  have hu:a.tmps[d]? = some (.bool b):=by
   rcases hb with hb|hb<;>obtain⟨u,hu,hd⟩:=lt _ hb<;>rw[hu,(show u=Value.bool b from hd)]
  have hba:boolAt st.slots d=some b:=by unfold boolAt;rcases hb with hb|hb<;>rw[hb]
  simp only[Region.wanted,ho,yielded,hg,Option.bind_some,hd,hu,holds,List.nil_append,List.mem_singleton,forall_eq,hba,beq_iff_eq]
 have guardCase:∀b,st.slots[d]? = some (.g cs (.k (.bool b)))\/st.slots[d]? = some (.g cs (.v (.bool b)))->(Region.wanted o (yielded ops a.tmps)=true↔holds st.slots (cs++[(d,want)])):=by
  intro b hb
  have hba:boolAt st.slots d=some b:=by unfold boolAt;rcases hb with hb|hb<;>rw[hb]
  have hu:∃u,a.tmps[d]? = some u/\(holds st.slots cs->u=.bool b)/\(¬holds st.slots cs->u=undef):=by
   rcases hb with hb|hb<;>obtain⟨u,hu,hd⟩:=lt _ hb<;>exact⟨u,hu,hd⟩
  obtain⟨u,hu,h1,h2⟩:=hu
  have happ:holds st.slots (cs++[(d,want)])↔holds st.slots cs/\b=want:=by
   constructor
   ·intro h
    refine⟨λc hc=>h c (by simp[hc]),?_⟩
    have:=h (d,want) (by simp)
    rw[hba]at this;simpa using this
   ·rintro⟨h,rfl⟩ c hc
    rcases List.mem_append.1 hc with hc|hc
    ·exact h c hc
    ·simp only[List.mem_singleton]at hc;subst hc;exact hba
  rw[happ]
  by_cases hh:holds st.slots cs
  ·have:=h1 hh;subst this
   simp only[Region.wanted,ho,yielded,hg,Option.bind_some,hd,hu,hh,true_and,beq_iff_eq,Option.some.injEq]
  ·have:=h2 hh;subst this
   simp only[Region.wanted,ho,yielded,hg,Option.bind_some,hd,hu,hh,false_and,iff_false,undef]
   simp
 split at hs
 ·rename_i b hb;exact plainCase b (by simpa using hs) (.inl hb)
 ·rename_i b hb;exact plainCase b (by simpa using hs) (.inr hb)
 ·rename_i cs' b hb
  have e:cs'=cs:=by simpa using hs
  subst e;exact guardCase b (.inl hb)
 ·rename_i cs' b hb
  have e:cs'=cs:=by simpa using hs
  subst e;exact guardCase b (.inr hb)
 ·cases hs
theorem tmp_den(m:M w0 β st a w){d:Nat}{s:SV}(hsd:st.slots[d]? = some s):∃u,a.tmps[d]? = some u/\Den β st.slots s u:=by
 have h1:d<st.slots.length:=(List.getElem?_eq_some_iff.1 hsd).1
 have h2:d<a.tmps.size:=by rw[m.size];exact h1
 refine⟨a.tmps[d],Array.getElem?_eq_getElem h2,?_⟩
 have:=m.slot d _ (Array.getElem?_eq_getElem h2)
 rwa [List.getD_eq_getElem?_getD,hsd]at this
theorem off_wanted{ops:Array Oper}(m:M w0 β st a w)(h:offB st.slots ops o=true):Region.wanted o (yielded ops a.tmps)=false:=by
 unfold offB at h
 split at h
 ·cases h
 ·rename_i g want ho
  split at h
  ·rename_i d hd
   split at h
   ·rename_i b hb
    obtain⟨u,hu,hd'⟩:=tmp_den m hb
    have:u=.bool b:=hd'
    subst this
    cases hx:ops[g]? with
    |none=>rw[hx]at hd;cases hd
    |some og=>
     rw[hx]at hd
     have hd2:og.dst=some d:=hd
     have hn:¬b=want:=by simpa using h
     simp only[Region.wanted,ho,yielded,hx,Option.bind_some,hd2,hu]
     simpa using hn
   ·rename_i v hv hb
    obtain⟨u,hu,hd'⟩:=tmp_den m hb
    have:u=v:=hd'
    subst this
    cases hx:ops[g]? with
    |none=>rw[hx]at hd;cases hd
    |some og=>
     rw[hx]at hd
     have hd2:og.dst=some d:=hd
     have hn:¬u=.bool want:=λe=>hv want e
     simp only[Region.wanted,ho,yielded,hx,Option.bind_some,hd2,hu]
     rw[beq_eq_false_iff_ne]
     intro e
     split at e
     ·rename_i b hub
      simp only[Option.some.injEq]at hub e
      exact hn (by rw[hub,e])
     ·cases e
   ·cases h
  ·cases h
theorem onB_holds{l:List SV}:∀{cs:List (Nat×Bool)},onB l cs=true->holds l cs
 |[],_=>λc hc=>by cases hc
 |c::cs,h=>by
  simp only[onB,Bool.and_eq_true]at h
  intro x hx
  rcases List.mem_cons.1 hx with rfl|hx
  ·have:=h.1
   split at this
   ·rename_i b hb
    unfold boolAt
    rw[hb]
    have:b=x.2:=by simpa using this
    rw[this]
   ·cases this
  ·exact onB_holds h.2 x hx
theorem on_wanted{ops:Array Oper}{n:Nat}{cs:List (Nat×Bool)}(m:M w0 β st a w)(hc:chainOf ops (n+1) o=some cs)(h:onB st.slots cs=true):Region.wanted o (yielded ops a.tmps)=true:=by
 simp only[chainOf]at hc
 split at hc
 ·rename_i hg;simp[Region.wanted,hg]
 ·rename_i g want ho
  split at hc
  ·rename_i og hog
   split at hc
   ·rename_i d cs' hd hcs'
    simp only[Option.some.injEq]at hc;subst hc
    have hh:=onB_holds h (d,want) (by simp)
    have hk:∃b,st.slots[d]? = some (.k (.bool b))/\b=want:=by
     have:∀(l:List (Nat×Bool)),onB st.slots l=true->∀c∈l,∃b,st.slots[c.1]? = some (.k (.bool b))/\b=c.2:=by
      intro l
      induction l with
      |nil=>intro _ c hc;cases hc
      |cons x l ih=>
       intro h c hc
       simp only[onB,Bool.and_eq_true]at h
       rcases List.mem_cons.1 hc with rfl|hc
       ·have:=h.1
        split at this
        ·rename_i b hb;exact⟨b,hb,by simpa using this⟩
        ·cases this
       ·exact ih h.2 c hc
     exact this _ h (d,want) (by simp)
    obtain⟨b,hb,rfl⟩:=hk
    obtain⟨u,hu,hd'⟩:=tmp_den m hb
    have:u=.bool b:=hd'
    subst this
    simp only[Region.wanted,ho,yielded,hog,Option.bind_some,hd,hu]
    simp
   ·cases hc
  ·cases hc
theorem pinRes_upd{X:Tabs}{j:Nat}{r:Res}:(pinRes X j r).upd=r.upd:=by unfold pinRes;split<;>rfl
theorem pinRes_isG{X:Tabs}{j:Nat}{r:Res}(h:isG r.val=false):isG (pinRes X j r).val=false:=by
 unfold pinRes;split
 ·rfl
 ·exact h
theorem pinRes_sides{X:Tabs}{j:Nat}{r:Res}(h:allP (pinRes X j r).sides):allP r.sides:=by
 unfold pinRes at h;split at h
 ·exact h.2
 ·exact h
theorem pinRes_post{X:Tabs}{j:Nat}{u:Value}{w':World}(h:allP (pinRes X j r).sides)(hp:Post w0 β st.slots st.heap r u β' w'):Post w0 β st.slots st.heap (pinRes X j r) u β' w':=by
 unfold pinRes at h ⊢
 split at h
 ·rename_i q x _ hv
  have hx:x=q:=h.1
  have hd:=hp.den
  rw[hv]at hd
  have hu:u=.bool x:=hd
  exact⟨hp.keep,(by rw[hu,hx];rfl),λn hn=>(by cases hn),hp.mem⟩
 ·exact hp
theorem isG_conds{s:SV}(h:isG s=false):condsOf s=[]:=by cases s<;>first|rfl|(simp[isG]at h)
theorem step_sound{X:Tabs}{ops:Array Oper}{base j:Nat}{t:Tch}{L:Nat->Prop}(rk:RegOk ops)(ht:TabsOk P X)(m:M w0 β st a w)(inv:Inv X ops base L st)
  (hj:ops[j]? = some o) (hL:¬L j) (hg:∀g q,o.guard=some (g,q)->L g) (h:core P X ops base j o t st=some r) (hs:allP r.sides)
  (hK:∀β' a' w',M w0 β' (st.put o.dst r) a' w'->Inv X ops base (λi=>L i\/i=j) (st.put o.dst r)->K a' w'):wpOp P ops Q j K a w:=by
 unfold core at h
 split at h
 ·cases h
 ·rename_i cs hcs
  split at h
  ·split at h
   ·rename_i hoff
    simp only[Option.some.injEq]at h;subst h
    unfold wpOp
    rw[hj]
    dsimp only
    have hw:=off_wanted m hoff
    rw[if_neg (by rw[hw];decide)]
    have hp':Post w0 β st.slots st.heap {val:=.k undef,upd:=[],sides:=[]} undef β w:=⟨λ_ _ _=>rfl,rfl,λn hn=>(by cases hn),m.mem⟩
    refine hK β _ w (M_put m hp' λd hd=>⟨λi c hc he=>?_,λc hc=>by cases hc⟩) ⟨λi c hc=>?_,λk ok hk hLk hmk=>inv.fresh k ok hk (λhl=>hLk (.inl hl)) hmk⟩
    ·obtain⟨i',oi,h1,h2,h3⟩:=inv.conds i c hc
     have:=rk.dsts i' j oi o d h1 hj (by rw[h3,he]) hd
     exact hL (this▸h2)
    ·have:c∈condsOf (st.slots.getD i .junk):=by
      unfold St.put at hc
      cases hd:o.dst with
      |none=>rw[hd]at hc;exact hc
      |some d=>
       rw[hd]at hc
       have hc':c∈condsOf ((st.slots.set d (SV.k undef)).getD i .junk):=hc
       rw[getD_set']at hc'
       split at hc'
       ·cases hc'
       ·exact hc'
     obtain⟨i',oi,h1,h2,h3⟩:=inv.conds i c this
     exact⟨i',oi,h1,.inl h2,h3⟩
   split at h
   ·cases h
   ·rename_i r0 hr0
    split at h
    ·rename_i hchk
     simp only[Bool.and_eq_true,Bool.not_eq_true']at hchk
     obtain⟨⟨_,hnew⟩,hng⟩:=hchk
     have hup:=updNew_mem hnew
     have hfr:makes X o=true->base+j<st.heap.length/\st.heap.getD (base+j) none=none:=inv.fresh j o hj hL
     have invOf:∀(r1:Res),(∀n c,(n,c)∈r1.upd->(n=base+j/\makes X o=true)\/∃d,hpOf st.heap t n=some d)->(∀c∈condsOf r1.val,∃i oi,ops[i]? = some oi/\L i/\oi.dst=some c.1)->Inv X ops base (λi=>L i\/i=j) (st.put o.dst r1):=by
      intro r1 hu1 hc1
      refine⟨λi c hc=>?_,λk ok hk hLk hmk=>?_⟩
      ·have:c∈condsOf r1.val\/c∈condsOf (st.slots.getD i .junk):=by
        unfold St.put at hc
        cases hd:o.dst with
        |none=>rw[hd]at hc;exact .inr hc
        |some d=>
         rw[hd]at hc
         have hc':c∈condsOf ((st.slots.set d r1.val).getD i .junk):=hc
         rw[getD_set']at hc'
         split at hc'
         ·exact .inl hc'
         ·exact .inr hc'
       rcases this with hc|hc
       ·obtain⟨i',oi,h1,h2,h3⟩:=hc1 c hc
        exact⟨i',oi,h1,.inl h2,h3⟩
       ·obtain⟨i',oi,h1,h2,h3⟩:=inv.conds i c hc
        exact⟨i',oi,h1,.inl h2,h3⟩
      ·have hkj:k≠j:=λe=>hLk (.inr e)
       obtain⟨h1,h2⟩:=inv.fresh k ok hk (λhl=>hLk (.inl hl)) hmk
       show base+k<(heapSet st.heap r1.upd).length/\(heapSet st.heap r1.upd).getD (base+k) none=none
       refine⟨by rw[heapSet_length];exact h1,heapSet_none _ _ h2 λc hc=>?_⟩
       rcases hu1 _ c hc with⟨e',_⟩|⟨d,hd⟩
       ·omega
       ·have hz:=hpOf_some hd
        rw[h2]at hz;cases hz
     have condD:∀d,o.dst=some d->∀i,∀c∈condsOf (st.slots.getD i .junk),c.1≠d:=λd hd i c hc he=>by
      obtain⟨i',oi,h1,h2,h3⟩:=inv.conds i c hc
      have:=rk.dsts i' j oi o d h1 hj (by rw[h3,he]) hd
      exact hL (this▸h2)
     unfold wpOp
     rw[hj]
     dsimp only
     split at h
     ·rename_i hon
      simp only[Option.some.injEq]at h;subst h
      have hw:Region.wanted o (yielded ops a.tmps)=true:=on_wanted m hcs hon
      rw[if_pos hw]
      refine .inl (opRes_sound ht m (onB_holds hon) hfr (λn c hc=>hpOf_some hc) hr0 (pinRes_sides hs) λβ' u w' hp=>?_)
      have hcn:condsOf (pinRes X j r0).val=[]:=isG_conds (pinRes_isG hng)
      refine hK β' _ w' (M_put m (pinRes_post hs hp) λd hd=>⟨condD d hd,λc hc=>by rw[hcn]at hc;cases hc⟩) (invOf _ (by rw[pinRes_upd];exact hup) λc hc=>by rw[hcn]at hc;cases hc)
     ·split at h
      ·cases h
      ·rename_i g want hgd
       split at h
       ·rename_i d hd hun
        split at h
        ·rename_i hgs
         simp only[Bool.and_eq_true,beq_iff_eq]at hgs
         obtain⟨⟨hgs1,hgs2⟩,hgs3⟩:=hgs
         simp only[Option.some.injEq]at h;subst h
         obtain⟨og,hog,hogd⟩:∃og,ops[g]? = some og/\og.dst=some d:=by
          cases hx:ops[g]? with
          |none=>rw[hx]at hd;cases hd
          |some og=>rw[hx]at hd;exact⟨og,rfl,hd⟩
         have hwi:=wanted_iff m hgd hog hogd hgs1
         rw[←hgs2]at hwi
         have hLg:L g:=hg g want hgd
         have hconds:∀c∈condsOf (SV.g (dropOn st.slots cs) r0.val),∃i oi,ops[i]? = some oi/\L i/\oi.dst=some c.1:=by
          intro c hc
          simp only[condsOf,isG_conds hng,List.append_nil]at hc
          rw[hgs2]at hc
          rcases List.mem_append.1 hc with hc|hc
          ·have hgc:c∈condsOf (st.slots.getD d .junk):=by
            unfold gslot at hgs1
            rw[List.getD_eq_getElem?_getD]
            split at hgs1
            ·have:(dropOn st.slots cs).dropLast=[]:=by simpa using hgs1
             rw[this]at hc;cases hc
            ·have:(dropOn st.slots cs).dropLast=[]:=by simpa using hgs1
             rw[this]at hc;cases hc
            ·rename_i cs' b hb
             have e:cs'=(dropOn st.slots cs).dropLast:=by simpa using hgs1
             rw[hb];simp only[Option.getD_some,condsOf,List.append_nil];rw[e];exact hc
            ·rename_i cs' b hb
             have e:cs'=(dropOn st.slots cs).dropLast:=by simpa using hgs1
             rw[hb];simp only[Option.getD_some,condsOf,List.append_nil];rw[e];exact hc
            ·cases hgs1
           exact inv.conds d c hgc
          ·simp only[List.mem_singleton]at hc;subst hc
           exact⟨g,og,hog,hLg,hogd⟩
         have hdn:∀d',o.dst=some d'->∀c∈condsOf (SV.g (dropOn st.slots cs) r0.val),c.1≠d':=λd' hd' c hc he=>by
          obtain⟨i,oi,h1,h2,h3⟩:=hconds c hc
          have:=rk.dsts i j oi o d' h1 hj (by rw[h3,he]) hd'
          exact hL (this▸h2)
         have hinv:∀ss,Inv X ops base (λi=>L i\/i=j) (st.put o.dst {val:=.g (dropOn st.slots cs) r0.val,upd:=[],sides:=ss}):=λss=>invOf _ (λn c hu=>by cases hu) hconds
         split
         ·rename_i hw
          have hh2:=hwi.1 hw
          have hh:=dropOn_holds hh2
          have hs0:allP r0.sides:=by
           cases hss:r0.sides with
           |nil=>trivial
           |cons p ps=>rw[hss]at hs;exact hs.1 (condP_holds hh)
          refine .inl (opRes_sound ht m hh hfr (λn c hc=>hpOf_some hc) hr0 hs0 λβ' u w' hp=>?_)
          have hp':∀ss,Post w0 β st.slots st.heap {val:=.g (dropOn st.slots cs) r0.val,upd:=[],sides:=ss} u β' w':=λss=>
           ⟨hp.keep,⟨λ_=>hp.den,λhn=>absurd hh2 hn⟩,λn hn=>by have:=hp.nm n hn;rw[hun]at this;exact this,by have:=hp.mem;rw[hun]at this;exact this⟩
          exact hK β' _ w' (M_put m (hp' _) λd' hd'=>⟨condD d' hd',hdn d' hd'⟩) (hinv _)
         ·rename_i hw
          have hh:¬holds st.slots (dropOn st.slots cs):=λz=>hw (hwi.2 z)
          have hnm:∀n∈names r0.val,∃c,st.heap.getD n none=some c:=λn hn=>by
           have:=List.all_eq_true.1 hgs3 n hn
           have hm:n∈namesL (evS st.slots cs) o.op.operands.toList++cellRefs (hpOf st.heap t) (t.1++t.2):=List.contains_iff_mem.1 this
           rcases List.mem_append.1 hm with hm|hm
           ·obtain⟨x,_,hx⟩:=namesL_mem hm
            exact names_ev m hx
           ·obtain⟨q,t',c',v,h1,h2,h3⟩:=cellRefs_mem hm
            exact m.mem.refs q t' c' (hpOf_some h1) v h2 n h3
          have hp':∀ss,Post w0 β st.slots st.heap {val:=.g (dropOn st.slots cs) r0.val,upd:=[],sides:=ss} undef β w:=λss=>
           ⟨λ_ _ _=>rfl,⟨λz=>absurd z hh,λ_=>rfl⟩,λn hn=>hnm n hn,m.mem⟩
          exact hK β _ w (M_put m (hp' _) λd' hd'=>⟨condD d' hd',hdn d' hd'⟩) (hinv _)
        ·cases h
       ·cases h
    ·cases h
  ·cases h
end
theorem plains_congr{ev ev':Operand->SV}:∀{xs:List Operand},(∀x∈xs,ev x=ev' x)->plains ev xs=plains ev' xs
 |[],_=>rfl
 |x::xs,h=>by
  simp only[plains]
  rw[h x (by simp),plains_congr (xs:=xs) λy hy=>h y (by simp[hy])]
theorem plainRes_congr{P:Program}{ev ev':Operand->SV}{o:Oper}(h:∀x∈o.op.operands,ev x=ev' x):plainRes P ev o=plainRes P ev' o:=by
 unfold plainRes
 rw[plains_congr (xs:=o.op.operands.toList) λx hx=>h x (Array.mem_toList_iff.1 hx)]
 split
 ·rfl
 ·rename_i hsel
  rw[execOp_congr (ρ:=λx=>plainD (ev x)) (ρ':=λx=>plainD (ev' x)) o hsel λx hx=>congrArg plainD (h x hx)]
  have e:o.op.operands.toList.all (λx=>closed (ev x))=o.op.operands.toList.all (λx=>closed (ev' x)):=by
   rw[Bool.eq_iff_iff,List.all_eq_true,List.all_eq_true]
   exact⟨λk x hx=>by rw[←h x (Array.mem_toList_iff.1 hx)];exact k x hx,λk x hx=>by rw[h x (Array.mem_toList_iff.1 hx)];exact k x hx⟩
  rw[e]
 ·rfl
theorem nameds_congr{ev ev':Operand->SV}:∀{xs:List Operand},(∀x∈xs,ev x=ev' x)->nameds ev xs=nameds ev' xs
 |[],_=>rfl
 |x::xs,h=>by
  simp only[nameds]
  rw[h x (by simp),nameds_congr (xs:=xs) λy hy=>h y (by simp[hy])]
theorem namesL_congr{ev ev':Operand->SV}:∀{xs:List Operand},(∀x∈xs,ev x=ev' x)->namesL ev xs=namesL ev' xs
 |[],_=>rfl
 |x::xs,h=>by
  simp only[namesL]
  rw[h x (by simp),namesL_congr (xs:=xs) λy hy=>h y (by simp[hy])]
theorem opRes0_congr{P:Program}{X:Tabs}{ev ev':List (Nat×Bool)->Operand->SV}{hp:Nat->Option HE}{fresh:Nat}{cs:List (Nat×Bool)}{o:Oper}
  (h:∀x∈o.op.operands,∀c,ev c x=ev' c x):opRes0 P X ev hp fresh cs o=opRes0 P X ev' hp fresh cs o:=by
 have hpl:=plainRes_congr (P:=P) (o:=o) (ev:=ev cs) (ev':=ev' cs) λx hx=>h x hx cs
 have hparts:∀(parts:Array (Nat×Operand)),o.op.operands=(parts.toList.map (·.2)).toArray->nameds (ev cs) (parts.toList.map (·.2))=nameds (ev' cs) (parts.toList.map (·.2)):=λparts hop=>nameds_congr λx hx=>h x (by rw[hop,←Array.mem_toList_iff];exact hx) cs
 unfold opRes0
 split
 ·rename_i c x y ho
  have hc:∀q,ev q c=ev' q c:=h c (by simp[ho,Op.operands])
  have hx:∀q,ev q x=ev' q x:=h x (by simp[ho,Op.operands])
  have hy:∀q,ev q y=ev' q y:=h y (by simp[ho,Op.operands])
  have hb:∀(b:Bool) q,ev q (if b then x else y)=ev' q (if b then x else y):=λb q=>by cases b<;>simp[hx,hy]
  simp only[hc,hx,hy,hb]
 ·rename_i x ho;rw[h x (by simp[ho,Op.operands])]
 ·rename_i x ho;rw[h x (by simp[ho,Op.operands])]
 ·rfl
 ·rename_i t x ho;rw[h x (by simp[ho,Op.operands])]
 ·rename_i t x ho;rw[h x (by simp[ho,Op.operands])]
 ·rename_i t x y ho;rw[h x (by simp[ho,Op.operands]),h y (by simp[ho,Op.operands])]
 ·rename_i s x f ho;rw[h x (by simp[ho,Op.operands])]
 ·rename_i t x y ho;rw[h x (by simp[ho,Op.operands]),h y (by simp[ho,Op.operands])]
 ·rename_i t parts ho;rw[hparts parts (by rw[ho];rfl),hpl]
 ·rename_i x i ho;rw[h x (by simp[ho,Op.operands]),hpl]
 ·rename_i t x f ho;rw[h x (by simp[ho,Op.operands])]
 ·rename_i F first caps ho
  rw[nameds_congr (ev:=ev cs) (ev':=ev' cs) (xs:=caps.toList) λx hx=>h x (by simp only[ho,Op.operands];simp;exact .inr (Array.mem_toList_iff.1 hx)) cs]
 ·rename_i t len parts ho;rw[hparts parts (by rw[ho];rfl)]
 ·rename_i t x y ho;rw[h x (by simp[ho,Op.operands]),h y (by simp[ho,Op.operands])]
 ·rename_i args argTypes ho
  have ha:∀x,args.toList=[x]->ev cs x=ev' cs x:=λx hx=>h x (by simp only[ho,Op.operands,Call.operands];simp;rw[←Array.mem_toList_iff,hx];simp) cs
  split
  ·rename_i x t hx ht
   rw[ha x hx,hpl]
  ·rfl
 ·rename_i args argTypes ho
  have ha:∀x∈args.toList,ev cs x=ev' cs x:=λx hx=>h x (by simp only[ho,Op.operands,Call.operands];simp;exact Array.mem_toList_iff.1 hx) cs
  split
  ·rename_i x y t t' hx ht
   rw[ha x (by rw[hx];simp),ha y (by rw[hx];simp)]
  ·rfl
 ·rename_i f args ts ho
  have ha:∀x∈args.toList,ev cs x=ev' cs x:=λx hx=>h x (by simp only[ho,Op.operands,Call.operands];simp;exact .inr (Array.mem_toList_iff.1 hx)) cs
  rw[plains_congr ha,nameds_congr ha]
 ·rename_i t args ts ho
  have ha:∀x∈args.toList,ev cs x=ev' cs x:=λx hx=>h x (by simp only[ho,Op.operands,Call.operands];simp;exact .inr (Array.mem_toList_iff.1 hx)) cs
  have ht:ev cs (.tmp t)=ev' cs (.tmp t):=h (.tmp t) (by simp[ho,Op.operands,Call.operands]) cs
  rw[plains_congr ha,nameds_congr ha,ht]
 ·rename_i op t x y ty ho
  have hx:=h x (by simp[ho,Op.operands]) cs
  have hy:=h y (by simp[ho,Op.operands]) cs
  rw[hx,hy,hpl]
 ·rename_i x ho;rw[h x (by simp[ho,Op.operands]),hpl]
 ·exact hpl
theorem opNew_congr{P:Program}{X:Tabs}{ev ev':Operand->SV}{hp:Nat->Option HE}{fresh:Nat}{o:Oper}
  (h:∀x∈o.op.operands,ev x=ev' x):opNew P X ev hp fresh o=opNew P X ev' hp fresh o:=by
 have hparts:∀(parts:Array (Nat×Operand)),o.op.operands=(parts.toList.map (·.2)).toArray->nameds ev (parts.toList.map (·.2))=nameds ev' (parts.toList.map (·.2)):=λparts hop=>nameds_congr λx hx=>h x (by rw[hop,←Array.mem_toList_iff];exact hx)
 unfold opNew
 split
 ·rename_i t len parts ho;rw[hparts parts (by rw[ho];rfl)]
 ·rename_i t x y ho;rw[h x (by simp[ho,Op.operands]),h y (by simp[ho,Op.operands])]
 ·rename_i t x y ho;rw[h x (by simp[ho,Op.operands]),h y (by simp[ho,Op.operands])]
 ·rename_i args argTypes ho
  have ha:∀x,args.toList=[x]->ev x=ev' x:=λx hx=>h x (by simp only[ho,Op.operands,Call.operands];simp;rw[←Array.mem_toList_iff,hx];simp)
  split
  ·rename_i x t hx ht
   rw[ha x hx]
  ·rfl
 ·rename_i F args ts ho
  have ha:∀x,args.toList=[x]->ev x=ev' x:=λx hx=>h x (by simp only[ho,Op.operands,Call.operands];simp;exact .inr (by rw[←Array.mem_toList_iff,hx];simp))
  split
  ·split
   ·rename_i x hx
    rw[ha x hx]
   ·rfl
  ·rfl
 ·rfl
 ·rename_i t m k x ho;unfold mapSet;rw[h m (by simp[ho,Op.operands]),h k (by simp[ho,Op.operands])]
 ·rename_i t m k x ho;unfold mapSet;rw[h m (by simp[ho,Op.operands]),h k (by simp[ho,Op.operands])]
 ·rfl
theorem opMk_congr{X:Tabs}{ev ev':Operand->SV}{fresh:Nat}{o:Oper}(h:∀x∈o.op.operands,ev x=ev' x):opMk X ev fresh o=opMk X ev' fresh o:=by
 unfold opMk
 split
 ·rename_i F args ts ho
  have ha:∀x,args.toList=[x]->ev x=ev' x:=λx hx=>h x (by simp only[ho,Op.operands,Call.operands];simp;exact .inr (by rw[←Array.mem_toList_iff,hx];simp))
  split
  ·rename_i f x _ _ hx
   rw[ha x hx]
  ·rfl
 ·rfl
theorem opOw_congr{X:Tabs}{ev ev':Operand->SV}{hp:Nat->Option HE}{fresh:Nat}{o:Oper}(h:∀x∈o.op.operands,ev x=ev' x):opOw X ev hp fresh o=opOw X ev' hp fresh o:=by
 unfold opOw
 split
 ·rename_i F args ts ho
  rw[nameds_congr (ev:=ev) (ev':=ev') (xs:=args.toList) λx hx=>h x (by simp only[ho,Op.operands,Call.operands];simp;exact .inr (by rw[←Array.mem_toList_iff];exact hx))]
 ·rfl
theorem opCl_congr{P:Program}{X:Tabs}{ev ev':Operand->SV}{hp:Nat->Option HE}{fresh:Nat}{o:Oper}(h:∀x∈o.op.operands,ev x=ev' x):opCl P X ev hp fresh o=opCl P X ev' hp fresh o:=by
 unfold opCl
 split
 ·rfl
 ·split
  ·rfl
  ·rename_i t m k ok ho;rw[h m (by simp[ho,Op.operands]),h k (by simp[ho,Op.operands])]
  ·rename_i t m k x ho;rw[h m (by simp[ho,Op.operands]),h k (by simp[ho,Op.operands]),h x (by simp[ho,Op.operands])]
  ·rename_i s d x ho;rw[h x (by simp[ho,Op.operands])]
  ·rename_i t x y ho;rw[h x (by simp[ho,Op.operands]),h y (by simp[ho,Op.operands])]
  ·rename_i t x lo hi mx ho
   have hcut0:∀k,cutOf ev k lo hi none=cutOf ev' k lo hi none:=λk=>by
    have h1:∀y,lo=some y->ev y=ev' y:=λy e=>h y (by simp[ho,Op.operands,e])
    have h2:∀y,hi=some y->ev y=ev' y:=λy e=>h y (by simp[ho,Op.operands,e])
    unfold cutOf
    cases lo<;>cases hi<;>simp_all
   have hcut:∀k,cutOf ev k lo hi mx=cutOf ev' k lo hi mx:=λk=>by
    have h1:∀y,lo=some y->ev y=ev' y:=λy e=>h y (by simp[ho,Op.operands,e])
    have h2:∀y,hi=some y->ev y=ev' y:=λy e=>h y (by simp[ho,Op.operands,e])
    have h3:∀y,mx=some y->ev y=ev' y:=λy e=>h y (by simp[ho,Op.operands,e])
    unfold cutOf
    cases lo<;>cases hi<;>cases mx<;>simp_all
   rw[h x (by simp[ho,Op.operands])]
   simp only[hcut,hcut0]
  ·rename_i t x y ho;rw[h x (by simp[ho,Op.operands]),h y (by simp[ho,Op.operands])]
  ·rfl
theorem opGv_congr{X:Tabs}{ev ev':Operand->SV}{hp:Nat->Option HE}{fresh:Nat}{o:Oper}(h:∀x∈o.op.operands,ev x=ev' x):opGv X ev hp fresh o=opGv X ev' hp fresh o:=by
 unfold opGv
 split
 ·rename_i F args ts ho
  rw[nameds_congr (ev:=ev) (ev':=ev') (xs:=args.toList) λx hx=>h x (by simp only[ho,Op.operands,Call.operands];simp;exact .inr (by rw[←Array.mem_toList_iff];exact hx))]
 ·rfl
theorem opCs_congr{P:Program}{X:Tabs}{ev ev':Operand->SV}{fresh:Nat}{o:Oper}(h:∀x∈o.op.operands,ev x=ev' x):opCs P X ev fresh o=opCs P X ev' fresh o:=by
 unfold opCs
 split
 ·rfl
 ·split
  ·rename_i t x y ho;rw[h x (by simp[ho,Op.operands]),h y (by simp[ho,Op.operands])]
  ·rename_i t x y ho;rw[h x (by simp[ho,Op.operands]),h y (by simp[ho,Op.operands])]
  ·rename_i t x lo hi ho
   have hcut0:∀k,cutOf ev k lo hi none=cutOf ev' k lo hi none:=λk=>by
    have h1:∀y,lo=some y->ev y=ev' y:=λy e=>h y (by simp[ho,Op.operands,e])
    have h2:∀y,hi=some y->ev y=ev' y:=λy e=>h y (by simp[ho,Op.operands,e])
    unfold cutOf
    cases lo<;>cases hi<;>simp_all
   rw[h x (by simp[ho,Op.operands])]
   simp only[hcut0]
  ·rename_i args ts ho
   split
   ·rename_i x t hx _
    rw[h x (by simp only[ho,Op.operands,Call.operands];simp;rw[←Array.mem_toList_iff,hx];simp)]
   ·rfl
  ·rfl
theorem opSl_congr{P:Program}{X:Tabs}{ev ev':Operand->SV}{hp:Nat->Option HE}{fresh:Nat}{o:Oper}(h:∀x∈o.op.operands,ev x=ev' x):opSl P X ev hp fresh o=opSl P X ev' hp fresh o:=by
 unfold opSl
 split
 ·rename_i t x y ho;rw[h x (by simp[ho,Op.operands]),h y (by simp[ho,Op.operands])]
 ·rename_i op t x y ty ho;rw[h x (by simp[ho,Op.operands]),h y (by simp[ho,Op.operands])]
 ·rfl
theorem opRes_congr{P:Program}{X:Tabs}{ev ev':List (Nat×Bool)->Operand->SV}{hp:Nat->Option HE}{fresh:Nat}{cs:List (Nat×Bool)}{o:Oper}
  (h:∀x∈o.op.operands,∀c,ev c x=ev' c x):opRes P X ev hp fresh cs o=opRes P X ev' hp fresh cs o:=by
 unfold opRes
 rw[opMk_congr (ev:=ev cs) (ev':=ev' cs) λx hx=>h x hx cs,opSl_congr (ev:=ev cs) (ev':=ev' cs) λx hx=>h x hx cs,opOw_congr (ev:=ev cs) (ev':=ev' cs) λx hx=>h x hx cs,opGv_congr (ev:=ev cs) (ev':=ev' cs) λx hx=>h x hx cs,opCs_congr (ev:=ev cs) (ev':=ev' cs) λx hx=>h x hx cs,opCl_congr (ev:=ev cs) (ev':=ev' cs) λx hx=>h x hx cs,opRes0_congr h,opNew_congr (ev:=ev cs) (ev':=ev' cs) λx hx=>h x hx cs]
def tmpOf:Operand->Option Nat
 |.tmp t=>some t
 |_=>none
def readsOf(o:Oper):List Nat:=o.op.operands.toList.filterMap tmpOf
theorem evS_set{l:List SV}{d:Nat}{s:SV}{cs:List (Nat×Bool)}{x:Operand}(h:x≠.tmp d):evS (l.set d s) cs x=evS l cs x:=by
 cases x with
 |tmp t=>
  have:d≠t:=λe=>h (by rw[e])
  simp only[evS]
  rw[getD_set',if_neg (λz=>this z.1)]
 |_=>rfl
theorem tmp_mem{o:Oper}{x:Operand}{d:Nat}(hx:x∈o.op.operands)(hd:d∉readsOf o):x≠.tmp d:=λe=>hd (by
 subst e
 exact List.mem_filterMap.2 ⟨.tmp d,Array.mem_toList_iff.2 hx,rfl⟩)
theorem touchOf_congr{X:Tabs}{ev ev':Operand->SV}{fresh:Nat}{o:Oper}(h:∀x∈o.op.operands,ev x=ev' x):touchOf X ev fresh o=touchOf X ev' fresh o:=by
 unfold touchOf
 split
 ·rename_i t x ho;rw[h x (by simp[ho,Op.operands])]
 ·rename_i t x y ho;rw[h x (by simp[ho,Op.operands]),h y (by simp[ho,Op.operands])]
 ·rfl
 ·rfl
 ·rfl
 ·rename_i t len ps ho
  rw[namesL_congr (ev:=ev) (ev':=ev') λx hx=>h x (by simp only[ho,Op.operands];rw[←Array.mem_toList_iff];exact hx)]
 ·rename_i t x y ho;rw[h x (by simp[ho,Op.operands])]
 ·rename_i t x f ho;rw[h x (by simp[ho,Op.operands])]
 ·rfl
 ·rename_i t x lo hi mx ho;rw[h x (by simp[ho,Op.operands])]
 ·rename_i t m k ok ho;rw[h m (by simp[ho,Op.operands])]
 ·rename_i s d x ho;rw[h x (by simp[ho,Op.operands])]
 ·rename_i t m k x ho;rw[h m (by simp[ho,Op.operands]),h k (by simp[ho,Op.operands]),h x (by simp[ho,Op.operands])]
 ·rename_i t m k x ho;rw[h m (by simp[ho,Op.operands]),h k (by simp[ho,Op.operands])]
 ·rename_i args ts ho
  rw[namesL_congr (ev:=ev) (ev':=ev') λx hx=>h x (by simp only[ho,Op.operands,Call.operands];simp;exact Array.mem_toList_iff.1 hx)]
 ·rename_i b args ts hb ho
  rw[namesL_congr (ev:=ev) (ev':=ev') λx hx=>h x (by simp only[ho,Op.operands,Call.operands];simp;exact Array.mem_toList_iff.1 hx)]
 ·rename_i F args ts ho
  rw[namesL_congr (ev:=ev) (ev':=ev') λx hx=>h x (by simp only[ho,Op.operands,Call.operands];simp;exact .inr (Array.mem_toList_iff.1 hx))]
 ·rename_i t args ts ho
  rw[namesL_congr (ev:=ev) (ev':=ev') λx hx=>h x (by simp only[ho,Op.operands,Call.operands];simp;exact .inr (Array.mem_toList_iff.1 hx)),h (.tmp t) (by simp[ho,Op.operands,Call.operands])]
 ·rfl
theorem condP_set{l:List SV}{d:Nat}{s:SV}:∀{cs:List (Nat×Bool)},(∀c∈cs,c.1≠d)->condP (l.set d s) cs=condP l cs
 |[],_=>rfl
 |c::cs,h=>by
  simp only[condP]
  rw[boolAt_set (h c (by simp)),condP_set λx hx=>h x (by simp[hx])]
theorem onB_set{l:List SV}{d:Nat}{s:SV}:∀{cs:List (Nat×Bool)},(∀c∈cs,c.1≠d)->onB (l.set d s) cs=onB l cs
 |[],_=>rfl
 |c::cs,h=>by
  simp only[onB]
  rw[onB_set λx hx=>h x (by simp[hx]),List.getElem?_set_ne (Ne.symm (h c (by simp)))]
theorem core_frame{P:Program}{X:Tabs}{ops:Array Oper}{base j:Nat}{o:Oper}{t:Tch}{st:St}{dst:Option Nat}{r:Res}{cs:List (Nat×Bool)}
  (hcs:chainOf ops (ops.size+1) o=some cs) (hd:∀d,dst=some d->d∉readsOf o/\∀c∈cs,c.1≠d) (hu:∀n c,(n,c)∈r.upd->n∉t.1/\n∉t.2) :
  core P X ops base j o t (st.put dst r)=core P X ops base j o t st:=by
 have hev:∀x∈o.op.operands,∀c,evS (st.put dst r).slots c x=evS st.slots c x:=λx hx c=>by
  unfold St.put
  cases hdst:dst with
  |none=>rfl
  |some d=>exact evS_set (tmp_mem hx (hd d hdst).1)
 have hhp:hpOf (st.put dst r).heap t=hpOf st.heap t:=by
  funext n
  show hpOf (heapSet st.heap r.upd) t n=hpOf st.heap t n
  unfold hpOf
  split
  ·rename_i hmem
   exact heapSet_ne _ _ λc hc=>by
    have:=hu n c hc
    simp[this.1,this.2]at hmem
  ·rfl
 have hcp:condP (st.put dst r).slots cs=condP st.slots cs:=by
  unfold St.put
  cases hdst:dst with
  |none=>rfl
  |some d=>exact condP_set (hd d hdst).2
 have hoff:offB (st.put dst r).slots ops o=offB st.slots ops o:=by
  unfold St.put
  cases hdst:dst with
  |none=>rfl
  |some d=>
   unfold offB
   split
   ·rfl
   ·rename_i g want hg
    split
    ·rename_i d0 hd0
     have hne:d0≠d:=by
      simp only[chainOf,hg]at hcs
      split at hcs
      ·rename_i og hog
       split at hcs
       ·rename_i d1 cs' hd1 _
        simp only[Option.some.injEq]at hcs;subst hcs
        rw[hog]at hd0
        have e1:og.dst=some d0:=hd0
        have e2:d1=d0:=Option.some.inj (hd1.symm.trans e1)
        subst e2
        exact(hd d hdst).2 (d1,want) (by simp)
       ·cases hcs
      ·cases hcs
     dsimp only
     rw[List.getElem?_set_ne (Ne.symm hne)]
    ·rfl
 have hon:onB (st.put dst r).slots cs=onB st.slots cs:=by
  unfold St.put
  cases hdst:dst with
  |none=>rfl
  |some d=>exact onB_set (hd d hdst).2
 have hdo:dropOn (st.put dst r).slots cs=dropOn st.slots cs:=by
  unfold St.put
  cases hdst:dst with
  |none=>rfl
  |some d=>exact dropOn_set (hd d hdst).2
 unfold core
 rw[hcs]
 dsimp only
 rw[hoff,hon,hdo,touchOf_congr (X:=X) (ev:=evS (st.put dst r).slots cs) (ev':=evS st.slots cs) λx hx=>hev x hx cs,opRes_congr (ev:=evS (st.put dst r).slots) (ev':=evS st.slots) hev,hhp,hcp]
 split
 ·split
  ·rfl
  split
  ·rfl
  ·split
   ·split
    ·rfl
    split
    ·rfl
    ·rename_i g want hg
     split
     ·rename_i d0 hd0 _
      have hgs:gslot (st.put dst r).slots d0 (dropOn st.slots cs).dropLast=gslot st.slots d0 (dropOn st.slots cs).dropLast\/(dropOn st.slots cs==(dropOn st.slots cs).dropLast++[(d0,want)])=false:=by
       by_cases hq:(dropOn st.slots cs==(dropOn st.slots cs).dropLast++[(d0,want)])=true
       ·left
        have hm:(d0,want)∈cs:=dropOn_mem (l:=st.slots)<|by
         have:=eq_of_beq hq
         rw[this];simp
        unfold St.put
        cases hdst:dst with
        |none=>rfl
        |some d=>
         have hne:d0≠d:=(hd d hdst).2 _ hm
         unfold gslot
         dsimp only
         rw[List.getElem?_set_ne (Ne.symm hne)]
       ·right;simpa using hq
      have hnl:namesL (evS (st.put dst r).slots cs) o.op.operands.toList=namesL (evS st.slots cs) o.op.operands.toList:=namesL_congr λx hx=>hev x (Array.mem_toList_iff.1 hx) cs
      rw[hnl]
      rcases hgs with hgs|hgs<;>rw[hgs]
      simp
     ·rfl
   ·rfl
 ·rfl
section
variable(P:Program)(X:Tabs)(ops:Array Oper)(base:Nat)(ts:List Tch)
def stepAt(i:Nat)(s:St):Option (Oper×Res):=
 match ops[i]? with
 |some o=>match core P X ops base i o (ts.getD i ([],[])) s with
  |some r=>some (o,r)
  |none=>none
 |none=>none
def AllO(F:St->Prop):Nat->Array Bool->St->Prop
 |0,L,s=>Region.ready .any ops L=[]/\F s
 |f+1,L,s=>(Region.ready .any ops L=[]->F s)/\
  ∀i∈Region.ready .any ops L,∃o r,stepAt P X ops base ts i s=some (o,r)/\allP r.sides/\AllO F f (L.setIfInBounds i true) (s.put o.dst r)
end
section
variable{P:Program}{X:Tabs}{ops:Array Oper}{base:Nat}{ts:List Tch}{F:St->Prop}
theorem stepAt_spec{i:Nat}{s:St}{o:Oper}{r:Res}(h:stepAt P X ops base ts i s=some (o,r)):ops[i]? = some o/\core P X ops base i o (ts.getD i ([],[])) s=some r:=by
 unfold stepAt at h
 split at h
 ·rename_i o' ho
  split at h
  ·rename_i r' hr
   simp only[Option.some.injEq,Prod.mk.injEq]at h
   obtain⟨rfl,rfl⟩:=h
   exact⟨ho,hr⟩
  ·cases h
 ·cases h
theorem core_upd{i:Nat}{o:Oper}{t:Tch}{s:St}{r:Res}(h:core P X ops base i o t s=some r):(∃cs,chainOf ops (ops.size+1) o=some cs)/\∀n c,(n,c)∈r.upd->n∈t.2:=by
 unfold core at h
 split at h
 ·cases h
 ·rename_i cs hcs
  refine⟨⟨cs,hcs⟩,?_⟩
  split at h
  ·split at h
   ·simp only[Option.some.injEq]at h;subst h
    intro n c hn;cases hn
   split at h
   ·cases h
   ·rename_i r0 _
    split at h
    ·rename_i hc
     simp only[Bool.and_eq_true]at hc
     split at h
     ·simp only[Option.some.injEq]at h;subst h
      rw[pinRes_upd]
      exact updIn_mem hc.1.1
     split at h
     ·cases h
     ·split at h
      ·split at h
       ·simp only[Option.some.injEq]at h;subst h
        intro n c hn;cases hn
       ·cases h
      ·cases h
    ·cases h
  ·cases h
theorem heapSet_at:∀(l:List (Nat×HE)) (h:List (Option HE)) (n:Nat),(heapSet h l)[n]? = match l.reverse.find? (λq=>q.1==n)with
  |some q=>if n<h.length then some (some q.2)else none
  |none=>h[n]?
 |[],h,n=>rfl
 |(k,e)::l,h,n=>by
  simp only[heapSet]
  rw[heapSet_at l,List.reverse_cons,List.find?_append]
  cases l.reverse.find? (λq=>q.1==n)with
  |some q=>simp
  |none=>
   simp only[Option.none_or,List.find?_singleton]
   by_cases e':k=n
   ·subst e'
    simp only[beq_self_eq_true,if_true]
    by_cases hl:k<h.length
    ·rw[List.getElem?_set_self hl,if_pos hl]
    ·rw[List.getElem?_eq_none (by simp;omega),if_neg hl]
   ·have:(k==n)=false:=by simpa using e'
    simp only[this,Bool.false_eq_true,if_false]
    rw[List.getElem?_set_ne e']
theorem heapSet_comm{a b:List (Nat×HE)}(h:List (Option HE))(hab:∀n c m e,(n,c)∈a->(m,e)∈b->n≠m):heapSet (heapSet h a) b=heapSet (heapSet h b) a:=by
 apply List.ext_getElem?
 intro n
 rw[heapSet_at,heapSet_at,heapSet_at,heapSet_at,heapSet_length,heapSet_length]
 cases hb:b.reverse.find? (λq=>q.1==n)with
 |none=>cases a.reverse.find? (λq=>q.1==n)<;>rfl
 |some q=>
  cases ha:a.reverse.find? (λq=>q.1==n)with
  |none=>rfl
  |some p=>
   exfalso
   have h1:=List.find?_some ha;have h2:=List.find?_some hb
   have m1:=List.mem_of_find?_eq_some ha;have m2:=List.mem_of_find?_eq_some hb
   simp only[beq_iff_eq]at h1 h2
   exact hab p.1 p.2 q.1 q.2 (by simpa using m1) (by simpa using m2) (by rw[h1,h2])
theorem put_comm{s:St}{ri rj:Res}{di dj:Option Nat}(hd:∀d,di=some d->dj≠some d)(hu:∀n c m e,(n,c)∈ri.upd->(m,e)∈rj.upd->n≠m) :
  (s.put di ri).put dj rj=(s.put dj rj).put di ri:=by
 unfold St.put
 have hfx:dropFix dj (dropFix di s.fix)=dropFix di (dropFix dj s.fix):=by
  cases di with
  |none=>cases dj<;>rfl
  |some d=>cases dj with
   |none=>rfl
   |some e=>exact dropF_comm e d s.fix
 dsimp only
 rw[hfx]
 congr 1
 ·cases di with
  |none=>cases dj<;>rfl
  |some d=>cases dj with
   |none=>rfl
   |some e=>
    have:d≠e:=λz=>hd d rfl (by rw[z])
    exact List.set_comm _ _ this
 ·exact heapSet_comm _ hu
theorem swap{i j:Nat}{s:St}{oi oj:Oper}{ri rj:Res}(hap:Apart (ops:=ops) (ts:=ts) i j)(hi:stepAt P X ops base ts i s=some (oi,ri))(hj:stepAt P X ops base ts j (s.put oi.dst ri)=some (oj,rj)) :
  stepAt P X ops base ts j s=some (oj,rj)/\stepAt P X ops base ts i (s.put oj.dst rj)=some (oi,ri)/\(s.put oi.dst ri).put oj.dst rj=(s.put oj.dst rj).put oi.dst ri:=by
 obtain⟨hoi,hci⟩:=stepAt_spec hi
 obtain⟨hoj,hcj⟩:=stepAt_spec hj
 obtain⟨h1,h2,h3,h4,h5⟩:=ind_spec (hap oi oj hoi hoj)
 obtain⟨⟨csi,hcsi⟩,hui⟩:=core_upd hci
 obtain⟨⟨csj,hcsj⟩,huj⟩:=core_upd hcj
 have ej:=core_frame (P:=P) (X:=X) (base:=base) (j:=j) (t:=ts.getD j ([],[])) (st:=s) (dst:=oi.dst) (r:=ri) hcsj (λd hd=>⟨(h1 d hd).1,(h1 d hd).2 csj hcsj⟩) (λn c hn=>h4 n (hui n c hn))
 rw[ej]at hcj
 have ei:=core_frame (P:=P) (X:=X) (base:=base) (j:=i) (t:=ts.getD i ([],[])) (st:=s) (dst:=oj.dst) (r:=rj) hcsi (λd hd=>⟨(h2 d hd).1,(h2 d hd).2 csi hcsi⟩) (λn c hn=>h5 n (huj n c hn))
 refine⟨by unfold stepAt;rw[hoj];dsimp only;rw[hcj],by unfold stepAt;rw[hoi];dsimp only;rw[ei,hci],put_comm h3 λn c m e hn hm he=>?_⟩
 subst he
 exact(h4 n (hui n c hn)).2 (huj n e hm)
theorem AllO_first{i:Nat}{oi:Oper}:∀(f:Nat) (L:Array Bool) (s:St) (ri:Res),
  (∀j oj,ops[j]? = some oj->j≠i->L.getD j true=false->((twOf ops).getD j 0).testBit i=false->Apart (ops:=ops) (ts:=ts) i j)->Closed ops L->
  i∈Region.ready .any ops L->stepAt P X ops base ts i s=some (oi,ri)->allP ri.sides->
  AllO P X ops base ts F f (L.setIfInBounds i true) (s.put oi.dst ri)->AllO P X ops base ts F (f+1) L s:=by
 intro f
 induction f with
 |zero=>
  intro L s ri _ _ hr hi hs H
  refine⟨λh=>(by rw[h]at hr;cases hr),λj hj=>?_⟩
  by_cases hji:j=i
  ·subst hji;exact⟨oi,ri,hi,hs,H⟩
  ·have:=ready_mono hj hji
   rw[H.1]at this
   cases this
 |succ f ih=>
  intro L s ri hfree hcl hr hi hs H
  refine⟨λh=>(by rw[h]at hr;cases hr),λj hj=>?_⟩
  by_cases hji:j=i
  ·subst hji;exact⟨oi,ri,hi,hs,H⟩
  ·obtain⟨oj,rj,hsj,hsides,hall⟩:=H.2 j (ready_mono hj hji)
   obtain⟨hjun,oj',hoj,hwait⟩:=mem_ready.1 hj
   have hnot:((twOf ops).getD j 0).testBit i=false:=by
    cases hb:((twOf ops).getD j 0).testBit i with
    |false=>rfl
    |true=>
     have h0:=(mem_ready.1 hr).1
     have hil:L.getD i false=true:=by
      obtain⟨n,hn,hx⟩:=twOf_spec hoj hb
      obtain⟨e,he,hbd,rfl⟩:=waits_iff.1 hn
      have hnl:=hwait e he hbd
      rcases hx with rfl|⟨hlt,hx⟩
      ·exact hnl
      ·have hjlt:j<ops.size:=(Array.getElem?_eq_some_iff.1 hoj).1
       exact hcl.through e.on (ops[e.on]'(by omega)) (Array.getElem?_eq_getElem (by omega)) hnl hx
     rcases Nat.lt_or_ge i L.size with h'|h'
     ·simp[h']at h0 hil;rw[h0]at hil;cases hil
     ·simp[Array.getElem?_eq_none h']at hil
   obtain⟨e1,e2,e3⟩:=swap (hfree j oj' hoj hji hjun hnot) hi hsj
   refine⟨oj,rj,e1,hsides,ih _ _ ri (λk ok hk hki hun hno=>hfree k ok hk hki ?_ hno) (hcl.set hj) (ready_mono hr (Ne.symm hji)) e2 hs ?_⟩
   ·by_cases hjk:j=k
    ·subst hjk;exact hjun
    ·rw[getD_set_ne true hjk]at hun;exact hun
   ·rw[Array.setIfInBounds_comm _ _ hji,←e3]
    exact hall
end
def lexRun(P:Program)(X:Tabs)(ops:Array Oper)(base:Nat):Nat->List Oper->St->Option (St×List Prop×List Tch)
 |_,[],s=>some (s,[],[])
 |j,o::l,s=>
  match chainOf ops (ops.size+1) o with
  |none=>none
  |some cs=>
   match core P X ops base j o (softT (λn=>s.heap.getD n none) (touchOf X (evS s.slots cs) (base+j) o)) s with
   |none=>none
   |some r=>
    match lexRun P X ops base (j+1) l (s.put o.dst r)with
    |some (s',ps,ts)=>some (s',r.sides++ps,softT (λn=>s.heap.getD n none) (touchOf X (evS s.slots cs) (base+j) o)::ts)
    |none=>none
section
variable{P:Program}{X:Tabs}{ops:Array Oper}{base:Nat}{ts:List Tch}{F:St->Prop}{w0:Base P}{Q:Exit->Act->World->Prop}
theorem Inv.iff{L L':Nat->Prop}{s:St}(h:Inv X ops base L s)(e:∀i,L i↔L' i):Inv X ops base L' s:=
 ⟨λi c hc=>by obtain⟨j,oj,h1,h2,h3⟩:=h.conds i c hc;exact⟨j,oj,h1,(e j).1 h2,h3⟩,λj o hj hL hm=>h.fresh j o hj (λz=>hL ((e j).1 z)) hm⟩
theorem wpAny_of_AllO(rk:RegOk ops)(ht:TabsOk P X)(hQ:∀β s a w,F s->M w0 β s a w->Q .normal a w):∀(f:Nat) (L:Array Bool) (s:St) (a:Act) (w:World) (β:Env),
  AllO P X ops base ts F f L s->M w0 β s a w->Inv X ops base (λi=>L.getD i false=true) s->wpAny P .any ops Q f L a w
 |0,L,s,a,w,β,h,m,_=>⟨h.1,hQ β s a w h.2 m⟩
 |f+1,L,s,a,w,β,h,m,inv=>by
  refine⟨λhr=>hQ β s a w (h.1 hr) m,λi hi=>?_⟩
  obtain⟨o,r,hs,hsd,hall⟩:=h.2 i hi
  obtain⟨ho,hc⟩:=stepAt_spec hs
  obtain⟨h0,o',ho',hw⟩:=mem_ready.1 hi
  have e:o'=o:=Option.some.inj (ho'.symm.trans ho)
  subst e
  refine step_sound rk ht m inv ho (by simp[getD_false_of h0]) (λg q hg=>?_) hc hsd λβ' a' w' m' inv'=>?_
  ·obtain⟨_,e,he,hb,hon⟩:=rk.guards i o' g q ho hg
   rw[←hon];exact hw e he hb
  ·exact wpAny_of_AllO rk ht hQ f _ _ _ _ β' hall m' (inv'.iff λk=>(getD_set_iff h0).symm)
theorem lexRun_ts:∀(l:List Oper) (k:Nat) (s s':St) (ps:List Prop) (ts:List Tch),lexRun P X ops base k l s=some (s',ps,ts)->ts.length=l.length
 |[],k,s,s',ps,ts,h=>by simp only[lexRun,Option.some.injEq,Prod.mk.injEq]at h;rw[←h.2.2];rfl
 |o::l,k,s,s',ps,ts,h=>by
  simp only[lexRun]at h
  split at h
  ·cases h
  ·split at h
   ·cases h
   ·split at h
    ·rename_i s2 ps2 ts2 h2
     simp only[Option.some.injEq,Prod.mk.injEq]at h
     rw[←h.2.2,List.length_cons,List.length_cons,lexRun_ts l _ _ _ _ _ h2]
    ·cases h
theorem AllO_lex(hB:orderB 0 (fpsOf ops ts)=true)(hts:ts.length=ops.size)(hF:∀s',F s'↔F s'):∀(l:List Oper) (k:Nat) (L:Array Bool) (s s':St) (ps:List Prop) (ts':List Tch),
  (∀j,l[j]? = ops[k+j]?)->k+l.length=ops.size->(∀i,L.getD i true=false↔(k<=i/\i<ops.size))->(∀i,L.getD i false=true↔i<k)->Closed ops L->
  lexRun P X ops base k l s=some (s',ps,ts')->(∀j,ts'[j]? = ts[k+j]?)->allP ps->F s'->AllO P X ops base ts F l.length L s
 |[],k,L,s,s',ps,ts',hl,hk,hL,hL',hcl,hrun,htk,hps,hf=>by
  simp only[lexRun,Option.some.injEq,Prod.mk.injEq]at hrun
  obtain⟨rfl,_,_⟩:=hrun
  refine⟨?_,hf⟩
  cases hr:Region.ready .any ops L with
  |nil=>rfl
  |cons x xs=>
   have hx:x∈Region.ready .any ops L:=by rw[hr];simp
   have:=(hL x).1 (mem_ready.1 hx).1
   simp only[List.length_nil]at hk
   omega
 |o::l,k,L,s,s',ps,ts',hl,hk,hL,hL',hcl,hrun,htk,hps,hf=>by
  have h0:ops[k]? = some o:=by simpa using (hl 0).symm
  have hklt:k<ops.size:=(Array.getElem?_eq_some_iff.1 h0).1
  simp only[lexRun]at hrun
  split at hrun
  ·cases hrun
  ·rename_i cs hcs
   split at hrun
   ·cases hrun
   ·rename_i r hr
    split at hrun
    ·rename_i s2 ps2 ts2 h2
     simp only[Option.some.injEq,Prod.mk.injEq]at hrun
     obtain⟨rfl,rfl,rfl⟩:=hrun
     rw[allP_append]at hps
     have htk0:ts.getD k ([],[])=softT (λn=>s.heap.getD n none) (touchOf X (evS s.slots cs) (base+k) o):=by
      have:=htk 0
      simp only[List.getElem?_cons_zero,Nat.add_zero]at this
      rw[List.getD_eq_getElem?_getD,←this];rfl
     have hstep:stepAt P X ops base ts k s=some (o,r):=by
      unfold stepAt;rw[h0];dsimp only;rw[htk0,hr]
     have fpAt:∀j oj,ops[j]? = some oj->(fpsOf ops ts)[j]? = some {fpOf ops oj (ts.getD j ([],[]))with w:=(twOf ops).getD j 0}:=λj oj hj=>by
      have hlt:j<ops.size:=(Array.getElem?_eq_some_iff.1 hj).1
      unfold fpsOf
      rw[List.getElem?_zipWith,List.getElem?_zipWith]
      have h1:ops.toList[j]? = some oj:=by simpa using hj
      have h3:ts[j]? = some (ts.getD j ([],[])):=by
       rw[List.getD_eq_getElem?_getD,List.getElem?_eq_getElem (by omega)];rfl
      have h4:(twOf ops)[j]? = some ((twOf ops).getD j 0):=by
       obtain⟨r,g1,g2,_⟩:=twGo_spec ops.toList []
       have e:twOf ops=r:=by unfold twOf;rw[g1];rfl
       rw[List.getD_eq_getElem?_getD,List.getElem?_eq_getElem (by rw[e,g2];simpa using hlt)];rfl
      rw[h1,h3,h4]
     obtain⟨hw,hlater⟩:=orderB_spec hB k _ (fpAt k o h0)
     rw[Nat.zero_add]at hw
     dsimp only at hw
     have hready:k∈Region.ready .any ops L:=by
      rw[mem_ready]
      refine⟨(hL k).2 ⟨Nat.le_refl _,hklt⟩,o,h0,λe he hb=>(hL' e.on).2 ?_⟩
      have hm:e.on∈waitsOf o:=waits_iff.2 ⟨e,he,hb,rfl⟩
      have hbit:((twOf ops).getD k 0).testBit e.on=true:=by
       obtain⟨r,g1,g2,g3⟩:=twGo_spec ops.toList []
       have e':twOf ops=r:=by unfold twOf;rw[g1];rfl
       rw[e',List.getD_eq_getElem?_getD,g3 k o (by simpa using h0),Option.getD_some]
       generalize []++r.take k=acc
       revert hm
       generalize waitsOf o=ws
       intro hm
       induction ws with
       |nil=>cases hm
       |cons x xs ih=>
        simp only[twMask,Nat.testBit_or,Bool.or_eq_true]
        rcases List.mem_cons.1 hm with rfl|hm
        ·exact .inl (.inl (Nat.testBit_two_pow_self))
        ·exact .inr (ih hm)
      rcases Nat.lt_or_ge e.on k with h|h
      ·exact h
      ·have:((twOf ops).getD k 0).testBit e.on=false:=Nat.testBit_lt_two_pow (Nat.lt_of_lt_of_le hw (Nat.pow_le_pow_right (by decide) h))
       rw[this]at hbit;cases hbit
     refine AllO_first (oi:=o) l.length L s r (λj oj hj hjk hun hno=>?_) hcl hready hstep hps.1 ?_
     ·intro oi oj' hoi hoj'
      have e1:oi=o:=Option.some.inj (hoi.symm.trans h0)
      have e2:oj'=oj:=Option.some.inj (hoj'.symm.trans hj)
      subst e1;subst e2
      have hkj:k<j:=by have:=((hL j).1 hun).1;omega
      rcases hlater j _ hkj (fpAt j oj' hj)with h|h
      ·rw[Nat.zero_add]at h
       dsimp only at h
       rw[hno]at h;cases h
      ·exact h
     ·refine AllO_lex hB hts hF l (k+1) _ _ _ ps2 ts2 (λj=>by have:=hl (j+1);simpa [Nat.add_assoc,Nat.add_comm 1 j]using this) (by simp only[List.length_cons]at hk;omega)
       (λi=>?_) (λi=>?_) (hcl.set hready) h2 (λj=>by have:=htk (j+1);simpa [Nat.add_assoc,Nat.add_comm 1 j]using this) hps.2 hf
      ·have hkL:L.getD k true=false:=(hL k).2 ⟨Nat.le_refl _,hklt⟩
       have hksz:k<L.size:=by
        rcases Nat.lt_or_ge k L.size with h'|h'
        ·exact h'
        ·simp[Array.getElem?_eq_none h']at hkL
       by_cases e:k=i
       ·subst e
        constructor
        ·intro h;simp[hksz]at h
        ·intro h;omega
       ·rw[getD_set_ne true e,hL i];omega
      ·rw[getD_set_iff ((hL k).2 ⟨Nat.le_refl _,hklt⟩),hL' i];omega
    ·cases hrun
theorem wpOps_lex(rk:RegOk ops)(ht:TabsOk P X):∀(l:List Oper) (k:Nat) (s s':St) (ps:List Prop) (ts':List Tch) (a:Act) (w:World) (β:Env),
  (∀j,l[j]? = ops[k+j]?)->lexRun P X ops base k l s=some (s',ps,ts')->allP ps->M w0 β s a w->Inv X ops base (λi=>i<k) s->(∀β a w,M w0 β s' a w->Q .normal a w)->
  wpOps P ops Q (List.range' k l.length) a w
 |[],k,s,s',ps,ts',a,w,β,hl,hrun,hps,m,inv,hQ=>by
  simp only[lexRun,Option.some.injEq,Prod.mk.injEq]at hrun
  obtain⟨rfl,_,_⟩:=hrun
  exact hQ β a w m
 |o::l,k,s,s',ps,ts',a,w,β,hl,hrun,hps,m,inv,hQ=>by
  have h0:ops[k]? = some o:=by simpa using (hl 0).symm
  simp only[lexRun]at hrun
  split at hrun
  ·cases hrun
  ·rename_i cs hcs
   split at hrun
   ·cases hrun
   ·rename_i r hr
    split at hrun
    ·rename_i s2 ps2 ts2 h2
     simp only[Option.some.injEq,Prod.mk.injEq]at hrun
     obtain⟨rfl,rfl,rfl⟩:=hrun
     rw[allP_append]at hps
     rw[List.length_cons,List.range'_succ,wpOps_cons]
     refine step_sound rk ht m inv h0 (by omega) (λg q hg=>(rk.guards k o g q h0 hg).1) hr hps.1 λβ' a' w' m' inv'=>?_
     exact wpOps_lex rk ht l (k+1) _ _ ps2 ts2 a' w' β' (λj=>by have:=hl (j+1);simpa [Nat.add_assoc,Nat.add_comm 1 j]using this) h2 hps.2 m' (inv'.iff λi=>by omega) hQ
    ·cases hrun
end
theorem repl_false(n i:Nat):(Array.replicate n false).getD i false=false:=by
 by_cases h:i<n
 ·simp[h]
 ·simp[h]
def clean(s:St):St:={s with slots:=s.slots.map λx=>if isG x then .junk else x}
def padOf(X:Tabs)(ops:Array Oper):Nat:=if ops.any (makes X)then ops.size else 0
def regRun(P:Program)(X:Tabs)(ops:Array Oper)(draw:Bool)(st:St):Option (St×List Prop):=
 if regB ops then
  match lexRun P X ops st.heap.length 0 ops.toList {st with heap:=st.heap++List.replicate (padOf X ops) none}with
  |some (s,ps,ts)=>if !draw||orderB 0 (fpsOf ops ts)then some (clean s,ps)else none
  |none=>none
 else none
section
variable{P:Program}{X:Tabs}{ops:Array Oper}{w0:Base P}{w:World}{β:Env}{st s':St}{a:Act}{ps:List Prop}{Q:Exit->Act->World->Prop}
theorem NoG.at_(h:NoG st)(i:Nat):isG (st.slots.getD i .junk)=false:=by
 rw[List.getD_eq_getElem?_getD]
 cases hi:st.slots[i]? with
 |none=>rfl
 |some s=>exact h s (List.mem_of_getElem? hi)
theorem clean_noG(s:St):NoG (clean s):=by
 intro x hx
 obtain⟨y,_,rfl⟩:=List.mem_map.1 hx
 split
 ·rfl
 ·rename_i h;simpa using h
theorem clean_M(m:M w0 β st a w):M w0 β (clean st) a w:=by
 have hg:∀i,(clean st).slots.getD i .junk=if isG (st.slots.getD i .junk)then .junk else st.slots.getD i .junk:=λi=>by
  simp only[clean,List.getD_eq_getElem?_getD,List.getElem?_map]
  cases st.slots[i]?<;>rfl
 refine {defers:=m.defers,anc:=m.anc,size:=by simp[clean,m.size],slot:=λi u hu=>?_,locs:=λi n hn=>?_,mem:=m.mem,tie:=m.tie}
 ·rw[hg i]
  split
  ·trivial
  ·rename_i h
   exact Den_congr (λ_ _=>rfl) (λc hc=>by rw[isG_conds (by simpa using h)]at hc;cases hc) (m.slot i u hu)
 ·rw[hg i]at hn
  split at hn
  ·simp[names]at hn
  ·exact m.locs i n hn
theorem Mem.read{h h':List (Option HE)}{w':World}(m:Mem w0 β h w)(hg:∀n,h'.getD n none=h.getD n none)(hh:w'.heap=w.heap)(ho:w'.os=w.os)(ht:w'.tape=w.tape)(hu:w'.output=w.output):Mem w0 β h' w':=
 m.next (λ_=>False) (λ_ _ _ _=>rfl) (λ_ _ _ _ _ _ _=>rfl) (λn he hn _=>⟨(hg n)▸hn,λb _=>by rw[hh]⟩)
  (λb hN=>⟨by
           rcases hN with k|k
           ·exact .inl k
           ·exact .inr ⟨k.1,⟨by rw[hh];exact k.2.1.1,k.2.1.2.of (by rw[hh])⟩,λn he hn=>k.2.2 n he ((hg n)▸hn)⟩,by rw[hh]⟩)
  (by rw[hh];exact Nat.le_refl _) (λ_ _ _ k=>k.elim) (λ_ _ _ _ _ _ _ _ _ k=>k.elim) (λn t cs hn v hv q hq=>by
   obtain⟨c,hc⟩:=m.refs n t cs ((hg n)▸hn) v hv q hq
   exact⟨c,(hg q).trans hc⟩) m.one ⟨ho.trans m.below.os,ht.trans m.below.tape,hu.trans m.below.output,by rw[hh];exact m.below.size,λk hk hL=>by rw[hh];exact m.below.block k hk hL⟩ (λn v i hn q hq=>by
   obtain⟨c,hc⟩:=m.mrefs n v i ((hg n)▸hn) q hq
   exact⟨c,(hg q).trans hc⟩)
theorem pad_M(m:M w0 β st a w)(k:Nat):M w0 β {st with heap:=st.heap++List.replicate k none} a w:=by
 have hg:∀n,(st.heap++List.replicate k none).getD n none=st.heap.getD n none:=λn=>by
  simp only[List.getD_eq_getElem?_getD,List.getElem?_append]
  split
  ·rfl
  ·rename_i h
   rw[List.getElem?_replicate,List.getElem?_eq_none (Nat.le_of_not_lt h)]
   split<;>rfl
 exact {defers:=m.defers,anc:=λhk n hn=>(by obtain⟨e,c,hc⟩:=m.anc hk n hn;exact⟨e,c,(hg n).trans hc⟩),size:=m.size,slot:=m.slot,locs:=λi n hn=>(by obtain⟨c,hc⟩:=m.locs i n hn;exact⟨c,(hg n).trans hc⟩),mem:=m.mem.read hg rfl rfl rfl rfl,tie:=m.tie}
theorem pad_Inv(ng:NoG st):Inv X ops st.heap.length (λi=>(Array.replicate ops.size false).getD i false=true) {st with heap:=st.heap++List.replicate (padOf X ops) none}:=by
 refine⟨λi c hc=>?_,λj o hj _ hm=>?_⟩
 ·rw[isG_conds (ng.at_ i)]at hc;cases hc
 ·have hlt:j<ops.size:=(Array.getElem?_eq_some_iff.1 hj).1
  have hp:padOf X ops=ops.size:=by
   unfold padOf
   rw[if_pos]
   rw[Array.any_eq_true']
   exact⟨o,Array.mem_of_getElem? hj,hm⟩
  rw[hp]
  refine⟨by simp;omega,?_⟩
  simp only[List.getD_eq_getElem?_getD,List.getElem?_append,List.getElem?_replicate]
  rw[if_neg (by omega)]
  split<;>rfl
theorem M.drew'(m:M w0 β st a w):M w0 β st a {w with drawn:=w.drawn+1}:=
 {defers:=m.defers,anc:=m.anc,size:=m.size,slot:=m.slot,locs:=m.locs,mem:=m.mem.read (λ_=>rfl) rfl rfl rfl rfl,tie:=m.tie}
theorem region_sound(ht:TabsOk P X){id:Nat}{draw:Bool}(hm:P.follows .mixedOrders=true)(m:M w0 β st a w)(ng:NoG st)(h:regRun P X ops draw st=some (s',ps))(hs:allP ps)
  (hQ:∀β a w,M w0 β s' a w->NoG s'->Q .normal a w):(Code.region id ops draw).wp P Q a w:=by
 unfold regRun at h
 split at h
 ·rename_i hreg
  have rk:=regB_spec hreg
  split at h
  ·rename_i s ps' ts hrun
   split at h
   ·rename_i hord
    simp only[Option.some.injEq,Prod.mk.injEq]at h
    obtain⟨rfl,rfl⟩:=h
    have m0:=pad_M m (padOf X ops)
    have inv0:=pad_Inv (X:=X) (ops:=ops) ng
    have hfin:∀β a w,M w0 β s a w->Q .normal a w:=λβ a w mm=>hQ β a w (clean_M mm) (clean_noG s)
    cases draw with
    |false=>
     refine wp_region ?_
     rw[List.range_eq_range']
     have:=wpOps_lex (Q:=Q) rk ht ops.toList 0 _ _ ps' ts a w β (λj=>by simp) hrun hs m0 (inv0.iff λi=>?_) hfin
     ·simpa using this
     ·rw[repl_false];simp
    |true=>
     have hord':orderB 0 (fpsOf ops ts)=true:=by simpa using hord
     refine wp_region_any hm ?_
     have hall:=AllO_lex (F:=λx=>x=s) hord' (by rw[lexRun_ts _ _ _ _ _ _ hrun];simp) (λ_=>Iff.rfl) ops.toList 0 (Array.replicate ops.size false) _ s ps' ts (λj=>by simp) (by simp)
      (λi=>?_) (λi=>by rw[repl_false];simp) (λj oj _ hl=>by rw[repl_false]at hl;cases hl) hrun (λj=>by simp) hs rfl
     ·have:=wpAny_of_AllO (Q:=Q) rk ht (λβ x a w hx mm=>by subst hx;exact hfin β a w mm) _ _ _ a _ β hall m0.drew' inv0
      simpa using this
     ·by_cases hi:i<ops.size
      ·simp[hi]
      ·simp[hi]
   ·cases h
  ·cases h
 ·cases h
end
def storesIn(X:Tabs)(ops:Array Oper):Bool:=ops.any λo=>makes X o||(match o.op with|.store _ _ _=>true|.mapUpdate _ _ _ _=>true|.insert _ _ _ _=>true|_=>false)
def mergeV(b:Bool)(u v:Value):SV:=if flat u&&flat v&&flat (mergeN 3 b u v)then .v (mergeN 3 b u v)else .junk
def mergeSV(b:Bool):SV->SV->SV
 |.k u,.k v=>match u,v with
  |.int k p,.int k' q=>if k=k'/\p=q then .k (.int k p)else mergeV b (.int k p) (.int k' q)
  |u,v=>mergeV b u v
 |.k u,.v v=>mergeV b u v
 |.v u,.k v=>mergeV b u v
 |.v u,.v v=>match u,v with
  |.pointer (some a),.pointer (some a')=>if a=a' then .v (.pointer (some a))else .junk
  |u,v=>mergeV b u v
 |_,_=>.junk
def mergeSlots(b:Bool)(m:Nat):Nat->List SV->List SV->List SV
 |i,x::xs,y::ys=>(if m.testBit i then mergeSV b x y else y)::mergeSlots b m (i+1) xs ys
 |_,_,_=>[]
def memFix(p:Nat×Nat):List (Nat×Nat)->Bool
 |[]=>false
 |q::l=>bif Nat.beq q.1 p.1 then(bif Nat.beq q.2 p.2 then true else memFix p l)else memFix p l
def bothFix:List (Nat×Nat)->List (Nat×Nat)->List (Nat×Nat)
 |[],_=>[]
 |p::l,m=>bif memFix p m then p::bothFix l m else bothFix l m
theorem memFix_mem{p:Nat×Nat}:∀{l:List (Nat×Nat)},memFix p l=true->p∈l
 |[],h=>by cases h
 |q::l,h=>by
  simp only[memFix]at h
  cases h1:Nat.beq q.1 p.1 with
  |false=>rw[h1]at h;exact List.mem_cons_of_mem _ (memFix_mem h)
  |true=>
   rw[h1]at h
   cases h2:Nat.beq q.2 p.2 with
   |false=>rw[h2]at h;exact List.mem_cons_of_mem _ (memFix_mem h)
   |true=>
    have e1:=Nat.eq_of_beq_eq_true h1
    have e2:=Nat.eq_of_beq_eq_true h2
    have:q=p:=Prod.ext e1 e2
    rw[this];exact List.mem_cons_self ..
theorem bothFix_mem{p:Nat×Nat}:∀{l m:List (Nat×Nat)},p∈bothFix l m->p∈l/\p∈m
 |[],_,h=>by cases h
 |q::l,m,h=>by
  simp only[bothFix]at h
  cases hb:memFix q m with
  |true=>
   rw[hb,cond_true]at h
   rcases List.mem_cons.1 h with rfl|h
   ·exact⟨List.mem_cons_self ..,memFix_mem hb⟩
   ·obtain⟨a,b⟩:=bothFix_mem h;exact⟨List.mem_cons_of_mem _ a,b⟩
  |false=>
   rw[hb,cond_false]at h
   obtain⟨a,b⟩:=bothFix_mem h;exact⟨List.mem_cons_of_mem _ a,b⟩
def asim(P:Program)(X:Tabs):Code->St->Option (St×List Prop)
 |.skip,s=>some (s,[])
 |.region _ ops draw,s=>if storesIn X ops then none else regRun P X ops draw s
 |.seq a b,s=>match asim P X a s with
  |some (s1,p1)=>match asim P X b s1 with
   |some (s2,p2)=>some (s2,p1++p2)
   |none=>none
  |none=>none
 |.cond c a b,s=>match evS s.slots [] c with
  |.v (.bool q)=>match asim P X a s,asim P X b s with
   |some (s1,p1),some (s0,p0)=>
    if s1.slots.length=s0.slots.length then
     some ({slots:=mergeSlots q (maskOf (writesOf a++writesOf b)) 0 s1.slots s0.slots,heap:=s.heap,fix:=bothFix s1.fix s0.fix,keep:=s1.keep&&s0.keep},(match p1 with|[]=>[]|ps=>[q=true->allP ps])++(match p0 with|[]=>[]|ps=>[q=false->allP ps]))
    else none
   |_,_=>none
  |_=>none
 |_,_=>none
def loopN(step:(St->Out)->St->Out):Nat->St->Out
 |0,_=>.fail
 |n+1,s=>step (loopN step n) s
def sideOf(ps:List Prop)(o:Out):Out:=
 match ps with
 |[]=>o
 |ps=>.side ps o
section
variable{P:Program}{X:Tabs}{w0:Base P}
theorem sideOf_sat{Q:AExit->St->Prop}{ps:List Prop}{o:Out}(h:(sideOf ps o).sat Q):allP ps/\o.sat Q:=by
 unfold sideOf at h
 split at h
 ·exact⟨trivial,h⟩
 ·exact h
theorem mergeSlots_at{b:Bool}{m:Nat}:∀(xs ys:List SV) (i:Nat),xs.length=ys.length->∀j,(mergeSlots b m i xs ys).getD j .junk=if m.testBit (i+j)/\j<ys.length then mergeSV b (xs.getD j .junk) (ys.getD j .junk)else ys.getD j .junk
 |[],[],_,_,j=>by simp[mergeSlots]
 |[],_::_,_,h,_=>by simp at h
 |_::_,[],_,h,_=>by simp at h
 |x::xs,y::ys,i,h,j=>by
  cases j with
  |zero=>
   simp only[mergeSlots,List.getD_cons_zero,Nat.add_zero,List.length_cons,Nat.zero_lt_succ,and_true]
  |succ j=>
   have:=mergeSlots_at (b:=b) (m:=m) xs ys (i+1) (by simpa using h) j
   simp only[mergeSlots,List.getD_cons_succ,List.length_cons,Nat.add_lt_add_iff_right]
   rw[this,show i+1+j=i+(j+1)by omega]
theorem mergeSlots_length{b:Bool}{m:Nat}:∀(xs ys:List SV) (i:Nat),xs.length=ys.length->(mergeSlots b m i xs ys).length=ys.length
 |[],[],_,_=>rfl
 |[],_::_,_,h=>by simp at h
 |_::_,[],_,h=>by simp at h
 |x::xs,y::ys,i,h=>by simp only[mergeSlots,List.length_cons];rw[mergeSlots_length xs ys (i+1) (by simpa using h)]
theorem mergeV_noG(b:Bool)(x y:Value):isG (mergeV b x y)=false:=by
 unfold mergeV;split<;>rfl
theorem mergeSV_noG(b:Bool)(x y:SV):isG (mergeSV b x y)=false:=by
 unfold mergeSV
 split
 ·split
  ·split
   ·rfl
   ·exact mergeV_noG _ _ _
  ·exact mergeV_noG _ _ _
 ·exact mergeV_noG _ _ _
 ·exact mergeV_noG _ _ _
 ·split
  ·split<;>rfl
  ·exact mergeV_noG _ _ _
 ·rfl
theorem mergeV_left{β:Env}{l:List SV}{x y u:Value}(h:u=x\/u=ren β x):Den β l (mergeV true x y) u:=by
 unfold mergeV
 split
 ·rename_i hf
  simp only[Bool.and_eq_true]at hf
  show u=ren β _
  rw[mergeN_true]
  rcases h with h|h
  ·rw[ren_flat hf.1.1];exact h
  ·exact h
 ·trivial
theorem mergeV_right{β:Env}{l:List SV}{x y u:Value}(h:u=y\/u=ren β y):Den β l (mergeV false x y) u:=by
 unfold mergeV
 split
 ·rename_i hf
  simp only[Bool.and_eq_true]at hf
  show u=ren β _
  rw[mergeN_false]
  rcases h with h|h
  ·rw[ren_flat hf.1.2];exact h
  ·exact h
 ·trivial
theorem mergeSV_left{β:Env}{l l':List SV}{x y:SV}{u:Value}(h:Den β l x u):Den β l' (mergeSV true x y) u:=by
 unfold mergeSV
 split
 ·split
  ·split
   ·exact h
   ·exact mergeV_left (.inl h)
  ·exact mergeV_left (.inl h)
 ·exact mergeV_left (.inl h)
 ·exact mergeV_left (.inr h)
 ·split
  ·split
   ·exact h
   ·trivial
  ·exact mergeV_left (.inr h)
 ·trivial
theorem mergeSV_right{β:Env}{l l':List SV}{x y:SV}{u:Value}(h:Den β l y u):Den β l' (mergeSV false x y) u:=by
 unfold mergeSV
 split
 ·split
  ·split
   ·rename_i e;obtain⟨rfl,rfl⟩:=e;exact h
   ·exact mergeV_right (.inl h)
  ·exact mergeV_right (.inl h)
 ·exact mergeV_right (.inr h)
 ·exact mergeV_right (.inl h)
 ·split
  ·split
   ·rename_i e;subst e;exact h
   ·trivial
  ·exact mergeV_right (.inr h)
 ·trivial
theorem mergeV_names{b:Bool}{x y:Value}{n:Nat}(h:n∈names (mergeV b x y)):False:=by
 unfold mergeV at h
 split at h
 ·rename_i hf
  simp only[Bool.and_eq_true]at hf
  simp only[names]at h;rw[refs_flat hf.2]at h;cases h
 ·cases h
theorem mergeSV_names'{b:Bool}{x y:SV}{n:Nat}(h:n∈names (mergeSV b x y)):n∈names x/\n∈names y:=by
 unfold mergeSV at h
 split at h
 ·split at h
  ·split at h
   ·cases h
   ·exact(mergeV_names h).elim
  ·exact(mergeV_names h).elim
 ·exact(mergeV_names h).elim
 ·exact(mergeV_names h).elim
 ·split at h
  ·split at h
   ·rename_i e;subst e;exact⟨h,h⟩
   ·cases h
  ·exact(mergeV_names h).elim
 ·cases h
theorem mergeSV_names{b:Bool}{x y:SV}{n:Nat}(h:n∈names (mergeSV b x y)):n∈names x:=(mergeSV_names' h).1
theorem lexRun_frame{ops:Array Oper}{base:Nat}:∀(l:List Oper) (k:Nat) (s s':St) (ps:List Prop) (ts:List Tch),lexRun P X ops base k l s=some (s',ps,ts)->
  s'.slots.length=s.slots.length/\∀i,i∉l.filterMap (·.dst)->s'.slots.getD i .junk=s.slots.getD i .junk
 |[],k,s,s',ps,ts,h=>by
  simp only[lexRun,Option.some.injEq,Prod.mk.injEq]at h
  obtain⟨rfl,_,_⟩:=h
  exact⟨rfl,λ_ _=>rfl⟩
 |o::l,k,s,s',ps,ts,h=>by
  simp only[lexRun]at h
  split at h
  ·cases h
  ·split at h
   ·cases h
   ·rename_i r _
    split at h
    ·rename_i s2 ps2 ts2 h2
     simp only[Option.some.injEq,Prod.mk.injEq]at h
     obtain⟨rfl,_,_⟩:=h
     obtain⟨h3,h4⟩:=lexRun_frame l _ _ _ _ _ h2
     have hl:(s.put o.dst r).slots.length=s.slots.length:=by unfold St.put;cases o.dst<;>simp
     refine⟨h3.trans hl,λi hi=>?_⟩
     rw[h4 i (λz=>hi (by
      rw[List.filterMap_cons];split
      ·exact z
      ·exact List.mem_cons_of_mem _ z))]
     unfold St.put
     cases hd:o.dst with
     |none=>rfl
     |some d=>
      have:d≠i:=λe=>hi (by rw[List.filterMap_cons,hd,e];simp)
      dsimp only
      rw[getD_set',if_neg (λz=>this z.1)]
    ·cases h
theorem clean_at(s:St)(i:Nat):(clean s).slots.getD i .junk=if isG (s.slots.getD i .junk)then .junk else s.slots.getD i .junk:=by
 simp only[clean,List.getD_eq_getElem?_getD,List.getElem?_map]
 cases s.slots[i]?<;>rfl
theorem regRun_frame{ops:Array Oper}{draw:Bool}{s s':St}{ps:List Prop}(ng:NoG s)(h:regRun P X ops draw s=some (s',ps)) :
  s'.slots.length=s.slots.length/\∀i,i∉ops.toList.filterMap (·.dst)->s'.slots.getD i .junk=s.slots.getD i .junk:=by
 unfold regRun at h
 split at h
 ·split at h
  ·rename_i s2 ps2 ts2 hrun
   split at h
   ·simp only[Option.some.injEq,Prod.mk.injEq]at h
    obtain⟨rfl,_⟩:=h
    obtain⟨h1,h2⟩:=lexRun_frame _ _ _ _ _ _ hrun
    refine⟨by simp only[clean,List.length_map];exact h1,λi hi=>?_⟩
    rw[clean_at,h2 i hi,if_neg (by rw[ng.at_ i];simp)]
   ·cases h
  ·cases h
 ·cases h
theorem asim_frame:∀(c:Code) (s s':St) (ps:List Prop),NoG s->asim P X c s=some (s',ps)->NoG s'/\s'.slots.length=s.slots.length/\∀i,i∉writesOf c->s'.slots.getD i .junk=s.slots.getD i .junk:=by
 intro c
 induction c with
 |skip=>intro s s' ps ng h;simp only[asim,Option.some.injEq,Prod.mk.injEq]at h;obtain⟨rfl,_⟩:=h;exact⟨ng,rfl,λ_ _=>rfl⟩
 |region id ops draw=>
  intro s s' ps ng h
  simp only[asim]at h
  split at h
  ·cases h
  ·have:=regRun_frame ng h
   refine⟨?_,this⟩
   unfold regRun at h
   split at h
   ·split at h
    ·split at h
     ·simp only[Option.some.injEq,Prod.mk.injEq]at h
      obtain⟨rfl,_⟩:=h
      exact clean_noG _
     ·cases h
    ·cases h
   ·cases h
 |seq a b iha ihb=>
  intro s s' ps ng h
  simp only[asim]at h
  split at h
  ·rename_i s1 p1 h1
   split at h
   ·rename_i s2 p2 h2
    simp only[Option.some.injEq,Prod.mk.injEq]at h
    obtain⟨rfl,_⟩:=h
    obtain⟨n1,l1,f1⟩:=iha _ _ _ ng h1
    obtain⟨n2,l2,f2⟩:=ihb _ _ _ n1 h2
    exact⟨n2,l2.trans l1,λi hi=>by simp only[writesOf,List.mem_append,not_or]at hi;rw[f2 i hi.2,f1 i hi.1]⟩
   ·cases h
  ·cases h
 |cond c a b iha ihb=>
  intro s s' ps ng h
  simp only[asim]at h
  split at h
  ·rename_i q hq
   split at h
   ·rename_i s1 p1 s0 p0 h1 h0
    split at h
    ·rename_i hlen
     simp only[Option.some.injEq,Prod.mk.injEq]at h
     obtain⟨rfl,_⟩:=h
     obtain⟨n1,l1,f1⟩:=iha _ _ _ ng h1
     obtain⟨n0,l0,f0⟩:=ihb _ _ _ ng h0
     have hat:=λq=>mergeSlots_at (b:=q) (m:=maskOf (writesOf a++writesOf b)) s1.slots s0.slots 0 hlen
     refine⟨λx hx=>?_,(mergeSlots_length _ _ 0 hlen).trans l0,λi hi=>?_⟩
     ·obtain⟨j,hj⟩:=List.getElem?_of_mem hx
      have e:=hat q j
      rw[List.getD_eq_getElem?_getD,hj,Option.getD_some]at e
      rw[e]
      split
      ·exact mergeSV_noG _ _ _
      ·exact n0.at_ j
     ·dsimp only
      rw[hat q i,if_neg]
      ·exact f0 i λz=>hi (by simp only[writesOf,List.mem_append];exact .inr z)
      ·rintro⟨hb,_⟩
       rw[Nat.zero_add]at hb
       exact hi (by simp only[writesOf];exact maskOf_bit hb)
    ·cases h
   ·cases h
  ·cases h
 |_=>intro s s' ps ng h;simp[asim]at h
theorem asim_heap:∀(c:Code) (s s':St) (ps:List Prop),asim P X c s=some (s',ps)->s'.heap=s.heap:=by
 have reg:∀(ops:Array Oper) (base:Nat) (l:List Oper) (k:Nat) (s s':St) (ps:List Prop) (ts:List Tch),(∀o∈l,makes X o=false/\(∀t x y,o.op≠.store t x y)/\(∀t m k x,o.op≠.mapUpdate t m k x)/\∀t m k x,o.op≠.insert t m k x)->lexRun P X ops base k l s=some (s',ps,ts)->s'.heap=s.heap:=by
  intro ops base l
  induction l with
  |nil=>intro k s s' ps ts _ h;simp only[lexRun,Option.some.injEq,Prod.mk.injEq]at h;rw[←h.1]
  |cons o l ih=>
   intro k s s' ps ts hl h
   simp only[lexRun]at h
   split at h
   ·cases h
   ·rename_i cs hcs
    split at h
    ·cases h
    ·rename_i r hr
     split at h
     ·rename_i s2 ps2 ts2 h2
      simp only[Option.some.injEq,Prod.mk.injEq]at h
      obtain⟨rfl,_,_⟩:=h
      rw[ih _ _ _ _ _ (λo ho=>hl o (by simp[ho])) h2]
      obtain⟨_,hu⟩:=core_upd hr
      have ht:(softT (λn=>s.heap.getD n none) (touchOf X (evS s.slots cs) (base+k) o)).2=[]:=by
       suffices ht:(touchOf X (evS s.slots cs) (base+k) o).2=[]by
        unfold softT;rw[ht];rfl
       obtain⟨h1,h3,h4,h5⟩:=hl o (by simp)
       unfold touchOf
       split
       ·rename_i t x ho
        have:X.dty t=false:=by simpa [makes,ho]using h1
        rw[this];rfl
       ·rename_i t x y ho;exact(h3 t x y ho).elim
       ·rename_i t ho;simp[makes,ho]at h1
       ·rename_i t x ho;simp[makes,ho]at h1
       ·rename_i t x y ho;simp[makes,ho]at h1
       ·rename_i t n ps ho;simp[makes,ho]at h1
       ·rfl
       ·split<;>rfl
       ·rename_i t r ho;simp[makes,ho]at h1
       ·rename_i t x lo hi mx ho
        have:X.sl=false/\X.mor=false:=by simpa [makes,ho]using h1
        rw[this.1,this.2];rfl
       ·rename_i t m k ok ho
        have:X.mor=false:=by simpa [makes,ho]using h1
        rw[this];rfl
       ·split<;>rfl
       ·rename_i t m k x ho;exact(h4 t m k x ho).elim
       ·rename_i t m k x ho;exact(h5 t m k x ho).elim
       ·rename_i args ts ho;simp[makes,isDeepCall,ho]at h1
       ·rfl
       ·rename_i F args ts ho
        have:X.dres F=false:=by simpa [makes,isDeepCall,ho]using h1
        rw[this];rfl
       ·rename_i t args ts ho
        have:X.dtmp=false:=by simpa [makes,isDeepCall,ho]using h1
        rw[this];rfl
       ·rfl
      unfold St.put
      cases hru:r.upd with
      |nil=>rfl
      |cons x l=>
       obtain⟨n,c⟩:=x
       have:=hu n c (by rw[hru];simp)
       rw[ht]at this;cases this
     ·cases h
 intro c
 induction c with
 |skip=>intro s s' ps h;simp only[asim,Option.some.injEq,Prod.mk.injEq]at h;rw[←h.1]
 |region id ops draw=>
  intro s s' ps h
  simp only[asim]at h
  split at h
  ·cases h
  ·rename_i hst
   have hno:∀o∈ops,makes X o=false/\(∀t x y,o.op≠.store t x y)/\(∀t m k x,o.op≠.mapUpdate t m k x)/\∀t m k x,o.op≠.insert t m k x:=λo ho=>by
    have hst':storesIn X ops=false:=by simpa using hst
    unfold storesIn at hst'
    have:=(Array.any_eq_false'.1 hst') o ho
    simp only[Bool.or_eq_true,not_or,Bool.not_eq_true]at this
    have h2:=this.2
    exact⟨this.1,λt x y e=>(by rw[e]at h2;cases h2),λt m k x e=>(by rw[e]at h2;cases h2),λt m k x e=>(by rw[e]at h2;cases h2)⟩
   unfold regRun at h
   split at h
   ·split at h
    ·rename_i s2 ps2 ts2 hrun
     split at h
     ·simp only[Option.some.injEq,Prod.mk.injEq]at h
      obtain⟨rfl,_⟩:=h
      have:=reg _ _ _ _ _ _ _ _ (λo ho=>hno o (Array.mem_toList_iff.1 ho)) hrun
      simp only[clean]
      rw[this]
      have hp:padOf X ops=0:=by
       unfold padOf
       rw[if_neg]
       intro hany
       obtain⟨o,ho,hm⟩:=Array.any_eq_true'.1 hany
       rw[(hno o ho).1]at hm;cases hm
      rw[hp];simp
     ·cases h
    ·cases h
   ·cases h
 |seq a b iha ihb=>
  intro s s' ps h
  simp only[asim]at h
  split at h
  ·rename_i s1 p1 h1
   split at h
   ·rename_i s2 p2 h2
    simp only[Option.some.injEq,Prod.mk.injEq]at h
    obtain⟨rfl,_⟩:=h
    rw[ihb _ _ _ h2,iha _ _ _ h1]
   ·cases h
  ·cases h
 |cond c a b iha ihb=>
  intro s s' ps h
  simp only[asim]at h
  split at h
  ·split at h
   ·split at h
    ·simp only[Option.some.injEq,Prod.mk.injEq]at h
     rw[←h.1]
    ·cases h
   ·cases h
  ·cases h
 |_=>intro s s' ps h;simp[asim]at h
theorem cond_bool{c:Operand}{w:World}{β:Env}{s:St}{a:Act}{q:Bool}(m:M w0 β s a w)(h:evS s.slots [] c=.k (.bool q)\/evS s.slots [] c=.v (.bool q)):a.eval c=.bool q:=by
 have hd:=Den_eval (cs:=[]) m (λc hc=>by cases hc) c
 rcases h with h|h<;>rw[h]at hd<;>exact hd
theorem asim_sound(ht:TabsOk P X)(hm:P.follows .mixedOrders=true):∀(c:Code) (s s':St) (ps:List Prop) (Q:Exit->Act->World->Prop) (a:Act) (w:World) (β:Env),M w0 β s a w->NoG s->asim P X c s=some (s',ps)->allP ps->
  (∀β a w,M w0 β s' a w->Q .normal a w)->c.wp P Q a w:=by
 intro c
 induction c with
 |skip=>intro s s' ps Q a w β m ng h hs hQ;simp only[asim,Option.some.injEq,Prod.mk.injEq]at h;obtain⟨rfl,_⟩:=h;exact wp_skip (hQ β a w m)
 |region id ops draw=>
  intro s s' ps Q a w β m ng h hs hQ
  simp only[asim]at h
  split at h
  ·cases h
  ·exact region_sound ht hm m ng h hs λβ a w m' _=>hQ β a w m'
 |seq x y ihx ihy=>
  intro s s' ps Q a w β m ng h hs hQ
  have hfr:=asim_frame (P:=P) (X:=X) x s
  simp only[asim]at h
  split at h
  ·rename_i s1 p1 h1
   split at h
   ·rename_i s2 p2 h2
    simp only[Option.some.injEq,Prod.mk.injEq]at h
    obtain⟨rfl,rfl⟩:=h
    rw[allP_append]at hs
    exact wp_seq (ihx _ _ _ _ a w β m ng h1 hs.1 λβ a w m'=>ihy _ _ _ _ a w β m' (hfr _ _ ng h1).1 h2 hs.2 hQ)
   ·cases h
  ·cases h
 |cond c x y ihx ihy=>
  intro s s' ps Q a w β m ng h hs hQ
  have hfx:=asim_frame (P:=P) (X:=X) x s
  have hfy:=asim_frame (P:=P) (X:=X) y s
  have hhx:=asim_heap (P:=P) (X:=X) x s
  have hhy:=asim_heap (P:=P) (X:=X) y s
  simp only[asim]at h
  split at h
  ·rename_i q hq
   have hb:=cond_bool m (.inr hq)
   split at h
   ·rename_i s1 p1 s0 p0 h1 h0
    split at h
    ·rename_i hlen
     simp only[Option.some.injEq,Prod.mk.injEq]at h
     obtain⟨rfl,rfl⟩:=h
     rw[allP_append]at hs
     obtain⟨n1,l1,f1⟩:=hfx _ _ ng h1
     obtain⟨n0,l0,f0⟩:=hfy _ _ ng h0
     have hat:=mergeSlots_at (b:=q) (m:=maskOf (writesOf x++writesOf y)) s1.slots s0.slots 0 hlen
     have hout:∀i,¬((maskOf (writesOf x++writesOf y)).testBit (0+i)/\i<s0.slots.length)->s1.slots.getD i .junk=s0.slots.getD i .junk:=by
      intro i hi
      by_cases hlt:i<s0.slots.length
      ·have hnot:i∉writesOf x++writesOf y:=λz=>hi ⟨by rw[Nat.zero_add];exact maskOf_mem z,hlt⟩
       simp only[List.mem_append,not_or]at hnot
       rw[f1 i hnot.1,f0 i hnot.2]
      ·simp only[List.getD_eq_getElem?_getD]
       rw[List.getElem?_eq_none (by omega),List.getElem?_eq_none (by omega)]
     have key:∀(s2:St),((s1.keep&&s0.keep)=true->s2.keep=true)->(∀p∈bothFix s1.fix s0.fix,p∈s2.fix)->s2.heap=s.heap->s2.slots.length=s0.slots.length->NoG s2->(∀i u (β:Env),Den β s2.slots (s2.slots.getD i .junk) u->Den β s2.slots ((mergeSlots q (maskOf (writesOf x++writesOf y)) 0 s1.slots s0.slots).getD i .junk) u)->
       (∀i n,n∈names ((mergeSlots q (maskOf (writesOf x++writesOf y)) 0 s1.slots s0.slots).getD i .junk)->∃c,s.heap.getD n none=some c)->
       ∀β a w,M w0 β s2 a w->M w0 β {slots:=mergeSlots q (maskOf (writesOf x++writesOf y)) 0 s1.slots s0.slots,heap:=s.heap,fix:=bothFix s1.fix s0.fix,keep:=s1.keep&&s0.keep} a w:=by
      intro s2 hkp hfix hh hl hn hden hnm β a w m2
      refine {defers:=m2.defers,anc:=λhk n hn=>hh▸m2.anc (hkp hk) n hn,size:=by rw[m2.size,hl,mergeSlots_length _ _ 0 hlen],slot:=λi u hu=>?_,locs:=λi n hi=>hnm i n hi,mem:=hh▸m2.mem,tie:=λp hp=>m2.tie p (hfix p hp)}
      have h3:=hden i u β (m2.slot i u hu)
      refine Den_congr (λ_ _=>rfl) (λc hc=>?_) h3
      have:isG ((mergeSlots q (maskOf (writesOf x++writesOf y)) 0 s1.slots s0.slots).getD i .junk)=false:=by
       rw[hat i]
       split
       ·exact mergeSV_noG _ _ _
       ·exact n0.at_ i
      rw[isG_conds this]at hc;cases hc
     have nm1:∀i n,n∈names (s1.slots.getD i .junk)->(∀β a w,M w0 β s1 a w->∃c,s.heap.getD n none=some c):=λi n hn β a w m1=>by
      obtain⟨c,hc⟩:=m1.locs i n hn
      exact⟨c,by rw[←hhx _ _ h1];exact hc⟩
     have nm0:∀i n,n∈names (s0.slots.getD i .junk)->(∀β a w,M w0 β s0 a w->∃c,s.heap.getD n none=some c):=λi n hn β a w m1=>by
      obtain⟨c,hc⟩:=m1.locs i n hn
      exact⟨c,by rw[←hhy _ _ h0];exact hc⟩
     cases q with
     |true=>
      refine wp_cond_true hb (ihx _ _ _ _ a w β m ng h1 ?_ λβ a w m1=>hQ β a w (key s1 (λh=>by simp only[Bool.and_eq_true]at h;exact h.1) (λp hp=>(bothFix_mem hp).1) (hhx _ _ h1) hlen n1 (λi u β hd=>?_) (λi n hn=>?_) β a w m1))
      ·have:=hs.1
       cases p1 with
       |nil=>trivial
       |cons p ps=>exact this.1 rfl
      ·rw[hat i]
       split
       ·exact mergeSV_left hd
       ·rename_i hno;rw[←hout i hno];exact hd
      ·rw[hat i]at hn
       split at hn
       ·exact nm1 i n (mergeSV_names hn) β a w m1
       ·rename_i hno;rw[←hout i hno]at hn;exact nm1 i n hn β a w m1
     |false=>
      refine wp_cond_false hb (ihy _ _ _ _ a w β m ng h0 ?_ λβ a w m1=>hQ β a w (key s0 (λh=>by simp only[Bool.and_eq_true]at h;exact h.2) (λp hp=>(bothFix_mem hp).2) (hhy _ _ h0) rfl n0 (λi u β hd=>?_) (λi n hn=>?_) β a w m1))
      ·have:=hs.2
       cases p0 with
       |nil=>trivial
       |cons p ps=>exact this.1 rfl
      ·rw[hat i]
       split
       ·exact mergeSV_right hd
       ·exact hd
      ·rw[hat i]at hn
       split at hn
       ·have:n∈names (s0.slots.getD i .junk):=(mergeSV_names' hn).2
        exact nm0 i n this β a w m1
       ·exact nm0 i n hn β a w m1
    ·cases h
   ·cases h
  ·cases h
 |_=>intro s s' ps Q a w β m ng h;simp[asim]at h
end
def Out.bind:Out->(AExit->St->Out)->Out
 |.leaf e s,k=>k e s
 |.ite b x y,k=>.ite b (x.bind k) (y.bind k)
 |.side ps x,k=>.side ps (x.bind k)
 |.fail,_=>.fail
abbrev Lp:=Nat->St->Option Out
def guardsUp(ops:Array Oper):Nat->Oper->List Nat
 |0,_=>[]
 |n+1,o=>match o.guard with
  |none=>[]
  |some (g,_)=>match ops[g]? with
   |some og=>guardsUp ops n og++[g]
   |none=>[]
def insN(l:List Nat)(n:Nat):List Nat:=bif l.any (Nat.beq n)then l else l++[n]
def pinsOf(X:Tabs)(ops:Array Oper):List Nat:=ops.toList.foldl (λl o=>bif makes X o then(guardsUp ops (ops.size+1) o).foldl insN l else l) []
def pinSet(X:Tabs)(g:Nat)(q:Bool):Tabs:={tb:=X.tb,td:=X.td,tr:=X.tr,dres:=X.dres,dty:=X.dty,pin:=λj=>bif Nat.beq j g then some q else X.pin j,tx:=X.tx,dtmp:=X.dtmp,ext:=X.ext,pl:=X.pl,nw:=X.nw,sl:=X.sl,ow:=X.ow,gv:=X.gv,rx:=X.rx,cl:=X.cl,gn:=X.gn}
def guardVal(P:Program)(X:Tabs)(ops:Array Oper)(st:St)(g:Nat):Option Bool:=
 match lexRun P X ops st.heap.length 0 (ops.toList.take (g+1)) {st with heap:=st.heap++List.replicate (padOf X ops) none}with
 |some (s,_,_)=>match (ops[g]?).bind (·.dst)with
  |some d=>match s.slots.getD d .junk with
   |.v (.bool x)=>some x
   |_=>none
  |none=>none
 |none=>none
def splitRun(P:Program)(ops:Array Oper)(draw:Bool)(k:AExit->St->Out)(s:St):List Nat->Tabs->Out
 |[],X=>match regRun P X ops draw s with
  |some (s',ps)=>sideOf ps (k .normal s')
  |none=>.fail
 |g::gs,X=>match guardVal P X ops s g with
  |some x=>.ite x (splitRun P ops draw k s gs (pinSet X g true)) (splitRun P ops draw k s gs (pinSet X g false))
  |none=>splitRun P ops draw k s gs X
def lexec(P:Program)(X:Tabs)(lp:Lp)(fuel:Nat):Code->(AExit->St->Out)->St->Out
 |.skip,k,s=>k .normal s
 |.region _ ops draw,k,s=>match X.rx ops draw s with
  |some o=>o.bind k
  |none=>match regRun P X ops draw s with
   |some (s',ps)=>sideOf ps (k .normal s')
   |none=>splitRun P ops draw k s (pinsOf X ops) X
 |.seq a b,k,s=>lexec P X lp fuel a (λe s=>match e with|.normal=>lexec P X lp fuel b k s|.exit id=>k (.exit id) s|.ret=>k .ret s) s
 |.cond c a b,k,s=>match evS s.slots [] c with
  |.k (.bool q)=>bif q then lexec P X lp fuel a k s else lexec P X lp fuel b k s
  |.v (.bool q)=>match asim P X (.cond c a b) s with
   |some (s',ps)=>sideOf ps (k .normal s')
   |none=>.ite q (lexec P X lp fuel a k s) (lexec P X lp fuel b k s)
  |_=>.fail
 |.block id c,k,s=>match lp id s with
  |some o=>o.bind k
  |none=>lexec P X lp fuel c (λe s=>match e with|.exit id'=>if id'=id then k .normal s else k (.exit id') s|.normal=>k .normal s|.ret=>k .ret s) s
 |.loop c,k,s=>loopN (λself s=>lexec P X lp fuel c (λe s=>match e with|.normal=>self s|.exit id=>k (.exit id) s|.ret=>k .ret s) s) fuel s
 |.exit id,k,s=>k (.exit id) s
 |.ret,k,s=>k .ret s
 |_,_,_=>.fail
theorem Out.sat_bind{F:AExit->St->Prop}{k:AExit->St->Out}:∀{o:Out},(o.bind k).sat F->o.sat λe s=>(k e s).sat F
 |.leaf _ _,h=>h
 |.ite _ x y,h=>⟨λb=>Out.sat_bind (h.1 b),λb=>Out.sat_bind (h.2 b)⟩
 |.side _ x,h=>⟨h.1,Out.sat_bind (o:=x) h.2⟩
 |.fail,h=>h.elim
theorem Out.sat_mono{F G:AExit->St->Prop}(h:∀e s,F e s->G e s):∀{o:Out},o.sat F->o.sat G
 |.leaf _ _,k=>h _ _ k
 |.ite _ x y,k=>⟨λb=>Out.sat_mono h (k.1 b),λb=>Out.sat_mono h (k.2 b)⟩
 |.side _ x,k=>⟨k.1,Out.sat_mono h (o:=x) k.2⟩
 |.fail,k=>k.elim
section
variable{P:Program}{X:Tabs}{lp:Lp}
def Sem(w0:Base P)(Q:Exit->Act->World->Prop)(e:AExit)(s:St):Prop:=∀β a w,M w0 β s a w->NoG s->Q e.real a w
def BlockSound(P:Program)(w0:Base P)(id:Nat)(c:Code)(s:St)(o:Out):Prop:=
 ∀(Q:Exit->Act->World->Prop) (a:Act) (w:World) (β:Env),M w0 β s a w->NoG s->o.sat (Sem w0 Q)->(Code.block id c).wp P Q a w
def LpOk(P:Program)(w0:Base P)(lp:Lp)(l:List (Nat×Code)):Prop:=∀p∈l,∀s o,lp p.1 s=some o->BlockSound P w0 p.1 p.2 s o
theorem LpOk.left{w0:Base P}{l m:List (Nat×Code)}(h:LpOk P w0 lp (l++m)):LpOk P w0 lp l:=λp hp=>h p (List.mem_append.2 (.inl hp))
theorem LpOk.right{w0:Base P}{l m:List (Nat×Code)}(h:LpOk P w0 lp (l++m)):LpOk P w0 lp m:=λp hp=>h p (List.mem_append.2 (.inr hp))
theorem pinSet_ok(ht:TabsOk P X)(g:Nat)(q:Bool):TabsOk P (pinSet X g q):=⟨ht.nw,ht.pl,ht.tb,ht.tx,ht.td,ht.tr,ht.ow,ht.rx,ht.gv⟩
theorem splitRun_sound{w0:Base P}(hm:P.follows .mixedOrders=true){F:AExit->St->Prop}{ops:Array Oper}{draw:Bool}{id:Nat}{k:AExit->St->Out}{s:St}{Q:Exit->Act->World->Prop}{a:Act}{w:World}{β:Env}(m:M w0 β s a w)(ng:NoG s)
  (hk:∀e s β a w,M w0 β s a w->NoG s->(k e s).sat F->Q e.real a w):∀(gs:List Nat) (X:Tabs),TabsOk P X->(splitRun P ops draw k s gs X).sat F->(Code.region id ops draw).wp P Q a w
 |[],X,ht,h=>by
  simp only[splitRun]at h
  split at h
  ·rename_i s' ps hr
   obtain⟨h1,h2⟩:=sideOf_sat h
   exact region_sound ht hm m ng hr h1 λβ a w m' ng'=>hk .normal s' β a w m' ng' h2
  ·exact h.elim
 |g::gs,X,ht,h=>by
  simp only[splitRun]at h
  split at h
  ·rename_i x _
   cases x with
   |true=>exact splitRun_sound hm m ng hk gs _ (pinSet_ok ht g true) (h.1 rfl)
   |false=>exact splitRun_sound hm m ng hk gs _ (pinSet_ok ht g false) (h.2 rfl)
  ·exact splitRun_sound hm m ng hk gs X ht h
theorem lexec_sound{w0:Base P}(ht:TabsOk P X)(hm:P.follows .mixedOrders=true){F:AExit->St->Prop}{fuel:Nat}:∀(c:Code),LpOk P w0 lp (blocksL c)->∀(k:AExit->St->Out) (s:St) (Q:Exit->Act->World->Prop) (a:Act) (w:World) (β:Env),M w0 β s a w->NoG s->
  (lexec P X lp fuel c k s).sat F->(∀e s β a w,M w0 β s a w->NoG s->(k e s).sat F->Q e.real a w)->c.wp P Q a w:=by
 intro c
 induction c with
 |skip=>intro _ k s Q a w β m ng h hk;exact wp_skip (hk .normal s β a w m ng h)
 |region id ops draw=>
  intro _ k s Q a w β m ng h hk
  simp only[lexec]at h
  split at h
  ·rename_i o ho
   exact ht.rx ops draw s o ho w0 id Q a w β m ng (Out.sat_mono (λe s' hs β a w m' ng'=>hk e s' β a w m' ng' hs) (Out.sat_bind h))
  split at h
  ·rename_i s' ps hr
   obtain⟨h1,h2⟩:=sideOf_sat h
   exact region_sound ht hm m ng hr h1 λβ a w m' ng'=>hk .normal s' β a w m' ng' h2
  ·exact splitRun_sound hm m ng hk _ X ht h
 |seq x y ihx ihy=>
  intro hl k s Q a w β m ng h hk
  simp only[lexec]at h
  refine wp_seq (ihx hl.left _ s _ a w β m ng h λe s' β' a' w' m' ng' hs=>?_)
  cases e with
  |normal=>exact ihy hl.right k s' Q a' w' β' m' ng' hs hk
  |exit id=>exact hk (.exit id) s' β' a' w' m' ng' hs
  |ret=>exact hk .ret s' β' a' w' m' ng' hs
 |cond c x y ihx ihy=>
  intro hl k s Q a w β m ng h hk
  simp only[lexec]at h
  split at h
  ·rename_i q hq
   have hb:=cond_bool m (.inl hq)
   cases q with
   |true=>exact wp_cond_true hb (ihx hl.left k s Q a w β m ng h hk)
   |false=>exact wp_cond_false hb (ihy hl.right k s Q a w β m ng h hk)
  ·rename_i q hq
   have hb:=cond_bool m (.inr hq)
   split at h
   ·rename_i s' ps hsim
    obtain⟨h1,h2⟩:=sideOf_sat h
    have ng':=(asim_frame _ _ _ _ ng hsim).1
    exact asim_sound ht hm _ _ _ _ Q a w β m ng hsim h1 λβ a w m'=>hk .normal s' β a w m' ng' h2
   ·cases q with
    |true=>exact wp_cond_true hb (ihx hl.left k s Q a w β m ng (h.1 rfl) hk)
    |false=>exact wp_cond_false hb (ihy hl.right k s Q a w β m ng (h.2 rfl) hk)
  ·exact h.elim
 |block id c ih=>
  intro hl k s Q a w β m ng h hk
  simp only[lexec]at h
  split at h
  ·rename_i o ho
   refine hl (id,c) (List.mem_cons_self ..) s o ho Q a w β m ng (Out.sat_mono (λe s' hs=>?_) (Out.sat_bind h))
   exact λβ a w m' ng'=>hk e s' β a w m' ng' hs
  ·refine wp_block (ih (λp hp=>hl p (List.mem_cons_of_mem _ hp)) _ s _ a w β m ng h λe s' β' a' w' m' ng' hs=>?_)
   cases e with
   |normal=>exact hk .normal s' β' a' w' m' ng' hs
   |ret=>exact hk .ret s' β' a' w' m' ng' hs
   |exit id'=>
    show if id'=id then Q Exit.normal a' w' else Q (Exit.exit id') a' w'
    dsimp only at hs
    split at hs
    ·rename_i e
     rw[if_pos e]
     exact hk .normal s' β' a' w' m' ng' hs
    ·rename_i e
     rw[if_neg e]
     exact hk (.exit id') s' β' a' w' m' ng' hs
 |loop c ih=>
  intro hl k s Q a w β m ng h hk
  simp only[lexec]at h
  refine wp_loop (λa' w'=>∃n s' β',M w0 β' s' a' w'/\NoG s'/\(loopN (λself s=>lexec P X lp fuel c (λe s=>match e with|.normal=>self s|.exit id=>k (.exit id) s|.ret=>k .ret s) s) n s').sat F)
   (λa' w'=>Classical.epsilon λn=>(∃s' β',M w0 β' s' a' w'/\NoG s'/\(loopN (λself s=>lexec P X lp fuel c (λe s=>match e with|.normal=>self s|.exit id=>k (.exit id) s|.ret=>k .ret s) s) n s').sat F)/\
    ∀n',(∃s' β',M w0 β' s' a' w'/\NoG s'/\(loopN (λself s=>lexec P X lp fuel c (λe s=>match e with|.normal=>self s|.exit id=>k (.exit id) s|.ret=>k .ret s) s) n' s').sat F)->n<=n') ⟨fuel,s,β,m,ng,h⟩ ?_
  intro a1 w1 hI
  obtain⟨⟨s1,β1,m1,ng1,hs1⟩,hmin⟩:=least_eps (p:=λn=>∃s' β',M w0 β' s' a1 w1/\NoG s'/\(loopN (λself s=>lexec P X lp fuel c (λe s=>match e with|.normal=>self s|.exit id=>k (.exit id) s|.ret=>k .ret s) s) n s').sat F) hI
  generalize (Classical.epsilon λn=>(∃s' β',M w0 β' s' a1 w1/\NoG s'/\(loopN (λself s=>lexec P X lp fuel c (λe s=>match e with|.normal=>self s|.exit id=>k (.exit id) s|.ret=>k .ret s) s) n s').sat F)/\
    ∀n',(∃s' β',M w0 β' s' a1 w1/\NoG s'/\(loopN (λself s=>lexec P X lp fuel c (λe s=>match e with|.normal=>self s|.exit id=>k (.exit id) s|.ret=>k .ret s) s) n' s').sat F)->n<=n')=N at *
  cases N with
  |zero=>exact hs1.elim
  |succ N=>
   simp only[loopN]at hs1
   refine ih hl _ s1 _ a1 w1 β1 m1 ng1 hs1 λe s2 β2 a2 w2 m2 ng2 hs2=>?_
   cases e with
   |normal=>
    have hI2:∃n s' β',M w0 β' s' a2 w2/\NoG s'/\(loopN (λself s=>lexec P X lp fuel c (λe s=>match e with|.normal=>self s|.exit id=>k (.exit id) s|.ret=>k .ret s) s) n s').sat F:=⟨N,s2,β2,m2,ng2,hs2⟩
    refine⟨hI2,?_⟩
    have:=(least_eps hI2).2 N ⟨s2,β2,m2,ng2,hs2⟩
    exact Nat.lt_succ_of_le this
   |exit id=>exact hk (.exit id) s2 β2 a2 w2 m2 ng2 hs2
   |ret=>exact hk .ret s2 β2 a2 w2 m2 ng2 hs2
 |exit id=>intro _ k s Q a w β m ng h hk;exact wp_exit (hk (.exit id) s β a w m ng h)
 |ret=>intro _ k s Q a w β m ng h hk;exact wp_ret (hk .ret s β a w m ng h)
 |_=>intro _ k s Q a w β m ng h;exact h.elim
end
end Go.Proofs.YtmekpbopoknigaaGreatDoor.Dyn

import Derived.Test.YtmekpbopoknigaaGreatDoorQR
import Derived.Test.YtmekpbopoknigaaGreatDoorQY
import Derived.Test.YtmekpbopoknigaaGreatDoorQN
import Derived.Test.YtmekpbopoknigaaGreatDoorQQ
namespace Go.Proofs.YtmekpbopoknigaaGreatDoor
open Go Go.RowKit Sym
set_option maxRecDepth 100000
noncomputable def tdTd:List Dyn.EntryD:=[(6,en0R (rB true)),(12,enCo),(13,enSc),(8,enTv)]
noncomputable def trTd:List Dyn.EntryD:=[(5,en1D (qAnd qL PdW) λx=>rB (small21 (ofSh x))),(7,en2D (qAnd qL PdS) qB λx q=>.val (dvL (toSh (tame21 (ofSh x) q))))]
def drTd(K:Nat):Bool:=Nat.beq K 7||Nat.beq K 12
noncomputable def tabTd:Dyn.Tabs:={Dyn.trT (Dyn.tabs tbF tdTd drTd λ_=>true) trTd with sl:=true}
theorem tabTd_ok:Dyn.TabsOk Tryz.prog tabTd:=by
 have h:Dyn.TabsOk Tryz.prog (Dyn.trT (Dyn.tabs tbF tdTd drTd λ_=>true) trTd):=Dyn.trT_ok (Dyn.tabs_ok tbF_ok (List.forall_mem_cons.2 ⟨en0R_ok awakeT,List.forall_mem_cons.2 ⟨enCo_ok,List.forall_mem_cons.2 ⟨enSc_ok,List.forall_mem_cons.2 ⟨enTv_ok,λ_ h=>by cases h⟩⟩⟩⟩))
  (List.forall_mem_cons.2 ⟨en1R_ok (qAnd_ok qL_ok) λx h=>small21_allR x h.1,List.forall_mem_cons.2 ⟨en2R_ok (qAnd_ok qL_ok) qB_ok λx q h _=>tame21_allR x h.1 q,λ_ h=>by cases h⟩⟩)
 exact⟨h.nw,h.pl,h.tb,h.tx,h.td,h.tr,h.ow,h.rx,h.gv⟩
def dkSx(m:Nat)(f:Nat->List Dyn.DC)(v:Vw)(t:Int)(c:Nat)(F G:Nat->List Dyn.DC)(i:Int):Dyn.St:=mkS 144 [(0,sH 0 0 m),(2,sI t),(4,sL 1),(6,.k (vb false)),(7,sH 2 0 c),(8,sH 3 0 c),(9,sI m),(10,sI i)] [some (.deep [.row m f]),vwH v,some (.own 41 c F),some (.own 41 c G)]
def dkKx:List Nat:=[0,2,4,6,7,8,9,10]
def rotI(m:Nat)(t:Int)(i:Nat):Int:=(W ((i:Int)+band t 255)).tmod m
def dkFx(sh:Nat->Sh)(i:Nat):List Dyn.DC:=partC true (sh i)
def dkGx(m:Nat)(sh:Nat->Sh)(t:Int)(i:Nat):List Dyn.DC:=partC true (sh (rotI m t i).toNat)
def dkTx(add:Nat->Bool)(sh:Nat->Sh)(i:Nat):List Dyn.DC:=partC (add i) (sh i)
def dkBx(m:Nat)(add:Nat->Bool)(sh:Nat->Sh)(v:Vw)(t:Int)(c:Nat)(F G:Nat->List Dyn.DC)(i:Nat):Dyn.Out:=
 .ite (decide ((i:Int)<(m:Int))) (.side [0<=(i:Int)/\(i:Int)<(m:Int),szP 120 c] (.side [(m:Int)≠0,0<=rotI m t i/\rotI m t i<(m:Int),szP 120 c]
  (.leaf .normal (dkSx m (dkTx add sh) v t (c+1) (Dyn.appF c F (Dyn.pickL 0 [dkFx sh i])) (Dyn.appF c G (Dyn.pickL 0 [dkGx m sh t i])) (W ((i:Int)+1)))))) (.leaf (.exit 0) (dkSx m (dkTx add sh) v t c F G i))
def zkSx(k:Nat)(R:Nat->List Dyn.DC)(i:Int):Dyn.St:=mkS 144 [(6,.k (vb false)),(16,sH 0 0 k),(20,sI i)] [some (.deep [.row k R,cB true])]
def zkRx:Dyn.St:=mkS 144 [(6,.k (vb false))] []
def zkKx:List Nat:=[6,16,20]
def zkBx(k:Nat)(a b:Nat->Int)(i:Nat):Dyn.Out:=
 .ite (decide ((i:Int)<(k:Int))) (.side [0<=(i:Int)/\(i:Int)<(k:Int)] (.ite (!(bif a i==0 then bif b i==0 then true else false else false)) (.leaf .ret zkRx) (.leaf .normal (zkSx k (cvF a b) (W ((i:Int)+1)))))) (.leaf (.exit 2) (zkSx k (cvF a b) i))
def dkLpx(m:Nat)(add:Nat->Bool)(sh:Nat->Sh)(v:Vw)(t:Int)(k:Nat)(a b:Nat->Int):Dyn.Lp:=λid st=>match id with
 |0=>some (.side [Dyn.nilSlot 8 41 (dkGx m sh t) (Dyn.nilSlot 7 41 (dkFx sh) (keepA 144 [] [0,4] dkKx (2 ^ 10) st))=dkSx m (dkTx add sh) v t 0 (dkFx sh) (dkGx m sh t) 0] (.leaf .normal (dkSx m (dkTx add sh) v t m (dkFx sh) (dkGx m sh t) m)))
 |2=>some (.side [keepA 144 [] [16] zkKx (2 ^ 20) st=zkSx k (cvF a b) 0,∀i,i<k->a i=0/\b i=0] (.leaf .normal (zkSx k (cvF a b) k)))
 |_=>none
theorem tk_B(m:Nat)(add:Nat->Bool)(sh:Nat->Sh)(v:Vw)(t:Int)(k:Nat)(a b:Nat->Int)(c:Nat)(F G:Nat->List Dyn.DC)(i:Nat):(Dyn.lexec Tryz.prog tabTd (dkLpx m add sh v t k a b) 3 (unloopD (blkD Tryz.f4.body 0)) .leaf (dkSx m (dkTx add sh) v t c F G i)).rl (keepR 144 [] [0,4,7,8] dkKx [])=dkBx m add sh v t c F G i:=by kernel_rfl
theorem zk_B(m:Nat)(add:Nat->Bool)(sh:Nat->Sh)(v:Vw)(t:Int)(k:Nat)(a b:Nat->Int)(i:Nat):(Dyn.lexec Tryz.prog tabTd (dkLpx m add sh v t k a b) 3 (unloopD (blkD Tryz.f4.body 2)) .leaf (zkSx k (cvF a b) i)).rl (keepR 144 [] [16] zkKx [6])=zkBx k a b i:=by kernel_rfl
def dkZ(m:Nat)(add:Nat->Bool)(sh:Nat->Sh):Nat->List Dyn.DC:=Dyn.appF (0+m) (Dyn.appF 0 (Dyn.pickL 0 []) (dkTx add sh)) (Dyn.pickL 0 [allC])
def dkW(m:Nat)(add:Nat->Bool)(sh:Nat->Sh):Nat->List Dyn.DC:=Dyn.appF (0+m+1) (dkZ m add sh) (dkFx sh)
def scP(n:Nat)(f:Nat->List Dyn.DC)(m:Nat)(g:Nat->List Dyn.DC):List Prop:=[∀i,i<n->f i=[cI (covOf (f i)).1,cI (covOf (f i)).2],∀i,i<m->g i=[cI (covOf (g i)).1,cI (covOf (g i)).2],n=m/\n<=1000/\∀i,i<n->(covOf (f i)).1=(covOf (g i)).1/\(covOf (f i)).2=(covOf (g i)).2]
def dkG1:Bool:=bif bif bif !true then true else !true then true else !true then true else !true
def dkG2:Bool:=bif dkG1 then true else !true
noncomputable def dkO0(m:Nat)(add:Nat->Bool)(sh:Nat->Sh)(w:Vw)(t:Int):Dyn.RO:=
 .side [dkSx m (dkTx add sh) w t 0 (dkFx sh) (dkGx m sh t) 0=dkSx m (dkTx add sh) w t 0 (dkFx sh) (dkGx m sh t) 0] (.side [PxD m (dkFx sh),GoodN (lstD m (dkFx sh)),VwG w] (.side [PxD m (dkGx m sh t),GoodN (lstD m (dkGx m sh t)),VwG w]
 (.side [szA 120 (0+m),szA 120 (0+m+1),PxD (0+m+1) (dkZ m add sh),GoodN (lstD (0+m+1) (dkZ m add sh)),VwG w]
 (.side [szA 120 (0+m),szA 120 (0+m+1),szA 120 (0+m+1+m),PxD (0+m+1+m) (dkW m add sh),GoodN (lstD (0+m+1+m) (dkW m add sh)),VwG w]
 (.side [gdF dkG1 (scP (pxN w) (cvR (lstD m (dkFx sh)) w) (pxN w) (cvR (lstD m (dkGx m sh t)) w)),gdF dkG2 (scP (pxN w) (cvR (lstD m (dkFx sh)) w) (pxN w) (cvR (lstD (0+m+1+m) (dkW m add sh)) w))]
 (.ite (bif dkG2 then true else !true) (.leaf (rB false))
 (.side [zkSx (pxN w) (cvR (lstD (0+m+1) (dkZ m add sh)) w) 0=zkSx (pxN w) (cvR (lstD (0+m+1) (dkZ m add sh)) w) 0,∀i,i<pxN w->(cvI (lstD (0+m+1) (dkZ m add sh)) w i).1=0/\(cvI (lstD (0+m+1) (dkZ m add sh)) w i).2=0] (.leaf (rB true)))))))))
def i6(n:Nat):Int:=if(6:Int)<(n:Int)then 6 else(n:Int)
noncomputable def pX(n:Nat)(f:Nat->List Dyn.DC):Shp:=ofSh (obX (i6 n).toNat f)
noncomputable def pM(n:Nat)(f:Nat->List Dyn.DC):Nat:=min (nuO (pX n f)) 12
noncomputable def pA(n:Nat)(f:Nat->List Dyn.DC):Nat->Bool:=adO (pX n f)
noncomputable def pS(n:Nat)(f:Nat->List Dyn.DC)(i:Nat):Sh:=toSh (tameS (suO (pX n f) i) true 2)
def pW(v:Vw):Vw:=⟨(tmW v).x,(tmW v).y,(tmW v).p,(tmW v).w,(tmW v).h,band (tmW v).d 1⟩
noncomputable def dkO(n:Nat)(f:Nat->List Dyn.DC)(v:Vw)(t:Int):Dyn.RO:=
 .side [PdW (obX n f)] (.ite (!(small21 (ofSh (obX n f)))) (.leaf (rB true)) (.side [0<=i6 n/\i6 n<=(n:Int),PdS (obX (i6 n).toNat f),true=true] (dkO0 (pM n f) (pA n f) (pS n f) (pW v) t)))
noncomputable def dkLq(n:Nat)(f:Nat->List Dyn.DC)(v:Vw)(t:Int):Dyn.Lp:=dkLpx (pM n f) (pA n f) (pS n f) (pW v) t (pxN (pW v)) (λi=>(cvI (lstD (0+pM n f+1) (dkZ (pM n f) (pA n f) (pS n f))) (pW v) i).1) (λi=>(cvI (lstD (0+pM n f+1) (dkZ (pM n f) (pA n f) (pS n f))) (pW v) i).2)
theorem dk_O(n:Nat)(f:Nat->List Dyn.DC)(v:Vw)(t:Int):(Dyn.rfun Tryz.prog tabTd (dkLq n f v t) 6 Tryz.f4 [dvL (obX n f),dvV v,dvI t]).ro Tryz.prog Tryz.f4.results=dkO n f v t:=by kernel_rfl
end Go.Proofs.YtmekpbopoknigaaGreatDoor
namespace Go.Proofs.YtmekpbopoknigaaGreatDoor
open Go Go.RowKit Sym
end Go.Proofs.YtmekpbopoknigaaGreatDoor
namespace Go.Proofs.YtmekpbopoknigaaGreatDoor
open Go Go.RowKit Sym
set_option maxRecDepth 100000
theorem cnt_fine{P:P2->Prop}:∀(s:Shp) (d:Int),Fine P s d->0<=d->1+(cntS s:Int)<=Nd d:=by
 intro s
 induction s with
 |nil=>intro d h;exact h.elim
 |mk k a b c r l n add sub ih=>
  intro d h h0
  have nd:=Nd_one d
  have one:n=0->1+(cntS (.mk k a b c r l n add sub):Int)<=Nd d:=λe=>by subst e;show 1+((0:Nat):Int)<=Nd d;omega
  rcases h with⟨_,_,_,_,e,_⟩|⟨_,_,_,e,_⟩|⟨_,_,_,e,_⟩|⟨_,_,e,_⟩|⟨_,_,_,_,_,e,_⟩|⟨rfl,rfl,rfl,rfl,rfl,rfl,h5,hm,hs⟩
  ·exact one e
  ·exact one e
  ·exact one e
  ·exact one e
  ·exact one e
  ·have st:=Nd_step h0 h5 (show 0<=(n:Int)by omega) (by omega)
   have nn:=Nd_one (d+1)
   have key:∀m:Nat,m<=n->(sumC (λi=>1+cntS (sub i)) m:Int)<=(m:Int)*Nd (d+1):=by
    intro m
    induction m with
    |zero=>intro _;show((0:Nat):Int)<=((0:Nat):Int)*Nd (d+1);omega
    |succ m ihm=>
     intro hm
     have a:=ihm (by omega)
     have q:=ih m (d+1) (hs m (by omega)) (by omega)
     have a2:((m+1:Nat):Int)*Nd (d+1)=(m:Int)*Nd (d+1)+Nd (d+1):=by rw[show((m+1:Nat):Int)=(m:Int)+1 by omega,Int.add_mul,Int.one_mul]
     show((sumC (λi=>1+cntS (sub i)) m+(1+cntS (sub m)):Nat):Int)<=_
     omega
   have:=key n (Nat.le_refl n)
   show 1+(sumC (λi=>1+cntS (sub i)) n:Int)<=Nd d
   omega
structure GoodE(s:Shp):Prop where
 rch:(figBndC s).2=false->∀b,Fits b->figClassC s b=0
 near:hbF s=false->∀b,Fits b->apart (figBndC s).1 b=true->∀q,Sb q b->Fits q->figClassC s q=0
theorem goodN_of{n:Nat}{add:Nat->Bool}{sub:Nat->Shp}(h:∀i,i<n->GoodE (sub i)):GoodN (lForm n add sub):=⟨λi hi=>(h i hi).rch,λi hi=>(h i hi).near⟩
theorem fine_goodE{B:Int}(hB:B<=FF){s:Shp}{d:Int}(f:Fine (PB B) s d)(ok:okS s=true):GoodE s:=by
 have eC:∀b,figClassC s b=classF s b:=λb=>by unfold figClassC;rw[ok];rfl
 have eB:figBndC s=bndF s:=by unfold figBndC;rw[ok];rfl
 refine⟨λh b hb=>?_,λhh b hb ha q hs hq=>?_⟩
 ·rw[eB]at h
  rw[eC]
  exact none_off hB hb s d f h
 ·rw[eB]at ha
  rw[eC]
  exact free_off hB hq s d f hh λh2=>Off.box hs (apart_off ((fine_bnd hB s d f).2 h2) hb ha)
theorem dAll_good:GoodE dAll:=fine_goodE (B:=0) (d:=0) (by decide) (.inl ⟨rfl,rfl,rfl,rfl,rfl,⟨⟨by decide,by decide⟩,by decide,by decide⟩,by decide⟩) (by kernel_rfl)
structure TamO(s:Shp):Prop where
 B:ShB s
 c:cntS s<=100000000
 g:GoodE s
 f:Fine (PB 40) s 2
theorem tamO(s:Shp)(h:ShB s):TamO (tameS s true 2):=by
 have f:Fine (PB 40) (tameS s true 2) 2:=tame_fine true s 2 h (by decide) (by decide)
 have n:=cnt_fine _ 2 f (by decide)
 have nd:=Nd_one 2
 have ok:okS (tameS s true 2)=true:=by
  have e:=tame2_ok true s h
  rwa [okE_S]at e
 exact⟨fine_B _ 2 f (by decide),by omega,fine_goodE (by decide) f ok,f⟩
theorem cvI_congr{s s':Shp}{v:Vw}(h:VwG v){i:Nat}(hi:i<pxN v)(hc:∀q,Sb q (pxI v i)->Fits q->pClassC s q=pClassC s' q):cvI s v i=cvI s' v i:=by
 have hp:=px_lt h hi
 exact cn_congr _ _ (px_dv h hp.1 hp.2) hc
theorem px_near{v:Vw}(h:VwG v)(hx : -29<=v.x/\v.x<=29)(hy : -29<=v.y/\v.y<=29)(hp:v.p<=32){i:Nat}(hi:i<pxN v):(-29<=(pxI v i).x0/\(pxI v i).x1<=285)/\-29<=(pxI v i).y0/\(pxI v i).y1<=285:=by
 have k:=px_lt h hi
 obtain⟨a1,a2,a3⟩:=col_bd h k.1
 obtain⟨b1,b2⟩:=lin_bd h k.2
 have p1:=h.p1
 unfold pxI pixB
 dsimp only
 omega
theorem appF_lt{n i:Nat}{f g:Nat->List Dyn.DC}(h:i<n):Dyn.appF n f g i=f i:=by
 unfold Dyn.appF
 rw[show Nat.blt i n=true from by rw[Nat.blt_eq];exact h];rfl
theorem appF_ge{n i:Nat}{f g:Nat->List Dyn.DC}(h:n<=i):Dyn.appF n f g i=g (i-n):=by
 unfold Dyn.appF
 rw[show Nat.blt i n=false from by
  cases e:Nat.blt i n with
  |false=>rfl
  |true=>rw[Nat.blt_eq]at e;omega];rfl
def zSub(m:Nat)(σ:Nat->Shp)(i:Nat):Shp:=if i<m then σ i else if i=m then dAll else σ (i-(m+1))
def zAdd(m:Nat)(add:Nat->Bool)(i:Nat):Bool:=if i<m then add i else if i=m then false else true
theorem zPx{m:Nat}{add:Nat->Bool}{σ:Nat->Shp}{i:Nat}(hi:i<m+1+m):PxE (dkW m add (λi=>toSh (σ i)) i) (zAdd m add i) (zSub m σ i):=by
 unfold dkW dkZ zAdd zSub
 by_cases h:i<m
 ·rw[if_pos h,if_pos h,appF_lt (by omega),appF_lt (by omega),appF_ge (by omega)]
  exact .inl rfl
 ·rw[if_neg h,if_neg h]
  by_cases e:i=m
  ·rw[if_pos e,if_pos e,appF_lt (by omega),appF_ge (by omega)]
   exact .inr ⟨rfl,rfl,rfl⟩
  ·rw[if_neg e,if_neg e,appF_ge (by omega)]
   refine .inl ?_
   unfold dkFx
   rw[Nat.zero_add]
theorem zPx1{m:Nat}{add:Nat->Bool}{σ:Nat->Shp}{i:Nat}(hi:i<m+1):PxE (dkZ m add (λi=>toSh (σ i)) i) (zAdd m add i) (zSub m σ i):=by
 have:=zPx (m:=m) (add:=add) (σ:=σ) (i:=i) (by omega)
 unfold dkW at this
 rwa [appF_lt (by omega)]at this
theorem zTam{m:Nat}{σ:Nat->Shp}(h:∀i,i<m->TamO (σ i)){i:Nat}(hi:i<m+1+m):(ShB (zSub m σ i)/\cntS (zSub m σ i)<=100000000)/\GoodE (zSub m σ i):=by
 unfold zSub
 by_cases k:i<m
 ·rw[if_pos k];exact⟨⟨(h i k).B,(h i k).c⟩,(h i k).g⟩
 ·rw[if_neg k]
  by_cases e:i=m
  ·rw[if_pos e];exact⟨⟨dAll_B,dAll_cnt⟩,dAll_good⟩
  ·rw[if_neg e]
   have:=h (i-(m+1)) (by omega)
   exact⟨⟨this.B,this.c⟩,this.g⟩
theorem zCls(m k:Nat)(add:Nat->Bool)(σ:Nat->Shp){b:B4}(hb:figClassC dAll b=2):pClassC (lForm (m+1+k) (zAdd m add) (zSub m σ)) b=pClassC (lForm k (λ_=>true) σ) b:=by
 have e1:zAdd m add m=false:=by unfold zAdd;rw[if_neg (Nat.lt_irrefl m),if_pos rfl]
 have e2:zSub m σ m=dAll:=by unfold zSub;rw[if_neg (Nat.lt_irrefl m),if_pos rfl]
 rw[hide_cls e1 (by rw[e2];exact hb)]
 refine foldN_cg k λi hi x=>?_
 show foldF x (figClassC (zSub m σ (m+1+i)) b) (zAdd m add (m+1+i))=foldF x (figClassC (σ i) b) true
 have g1:zAdd m add (m+1+i)=true:=by unfold zAdd;rw[if_neg (by omega),if_neg (by omega)]
 have g2:zSub m σ (m+1+i)=σ i:=by unfold zSub;rw[if_neg (by omega),if_neg (by omega),Nat.add_sub_cancel_left]
 rw[g1,g2]
theorem rotI_eq{m i:Nat}{t:Int}(hi:i<m)(hm:m<=12):rotI m t i=(((i+(band t 255).toNat)%m:Nat):Int)/\0<=rotI m t i/\rotI m t i<(m:Int)/\(rotI m t i).toNat=(i+(band t 255).toNat)%m:=by
 have hb:0<=band t 255/\band t 255<=255:=bandQ t 255 (by decide)
 have e:rotI m t i=(((i+(band t 255).toNat)%m:Nat):Int):=by
  unfold rotI
  rw[W_id (by omega) (by omega),Int.tmod_eq_emod_of_nonneg (by omega),show(i:Int)+band t 255=((i+(band t 255).toNat:Nat):Int)by omega,←Int.natCast_emod]
 have hlt:=Nat.mod_lt (i+(band t 255).toNat) (show m>0 by omega)
 rw[e]
 refine⟨rfl,by omega,by omega,by omega⟩
theorem dk_blocks:blocksL (bodyD Tryz.f4.body)=[(0,.loop (unloopD (blkD Tryz.f4.body 0))),(1,blkD Tryz.f4.body 1),(2,.loop (unloopD (blkD Tryz.f4.body 2))),(3,blkD Tryz.f4.body 3)]:=by kernel_rfl
theorem dk_b0:blocksL (unloopD (blkD Tryz.f4.body 0))=[(1,blkD Tryz.f4.body 1)]:=by kernel_rfl
theorem dk_b2:blocksL (unloopD (blkD Tryz.f4.body 2))=[(3,blkD Tryz.f4.body 3)]:=by kernel_rfl
theorem dk_loop0(m:Nat)(add:Nat->Bool)(sh:Nat->Sh)(v:Vw)(t:Int)(k:Nat)(a b:Nat->Int)(hm:m<=12)(w0:Dyn.Base Tryz.prog)(st:Dyn.St)(o:Dyn.Out)(h:dkLpx m add sh v t k a b 0 st=some o):Dyn.BlockSound Tryz.prog w0 0 (.loop (unloopD (blkD Tryz.f4.body 0))) st o:=by
 simp only[dkLpx,Option.some.injEq]at h
 subst h
 refine side_one λhS=>?_
 refine fold_block (fuel:=3) tabTd_ok mo (lp:=dkLpx m add sh v t k a b) (by rw[dk_b0];exact lpOk_cons (λs o h=>by cases h) lpOk_nil) (λi (_:Unit)=>dkSx m (dkTx add sh) v t i (dkFx sh) (dkGx m sh t) i) m (λ_ _=>()) () (keepR 144 [] [0,4,7,8] dkKx []) (keepR_ent 144 _ _ _ _) (λi _=>dkBx m add sh v t i (dkFx sh) (dkGx m sh t) i) (λi _=>tk_B m add sh v t k a b i (dkFx sh) (dkGx m sh t) i) (λi hi=>?_) ?_
  (hS▸((keepA_ent 144 _ _ _ _ st).trans (Dyn.Ent.nilSlot (P:=Tryz.prog) (k:=10) (by kernel_rfl) _ _)).trans (Dyn.Ent.nilSlot (P:=Tryz.prog) (k:=10) (by kernel_rfl) _ _))
 ·have r:=rotI_eq (t:=t) hi hm
  refine⟨λ_=>⟨⟨⟨by omega,by omega⟩,szP_ok (by decide) (by omega),trivial⟩,⟨by omega,⟨r.2.1,r.2.2.1⟩,szP_ok (by decide) (by omega),trivial⟩,rfl,?_⟩,λhf=>?_⟩
  ·rw[Wn1 hi (by omega)]
   exact⟨rfl,Dyn.HeLe.refl _,Dyn.HeLe.refl _,le_app rfl,le_app rfl,trivial⟩
  ·rw[decide_eq_false_iff_not]at hf
   exact absurd (show(i:Int)<(m:Int)by omega) hf
 ·refine⟨λht=>?_,λ_=>⟨rfl,Dyn.Fits.refl _⟩⟩
  rw[decide_eq_true_eq]at ht
  exact absurd (show(m:Int)<(m:Int)from ht) (by omega)
theorem dk_loop2(m:Nat)(add:Nat->Bool)(sh:Nat->Sh)(v:Vw)(t:Int)(k:Nat)(a b:Nat->Int)(hk:k<=1000)(w0:Dyn.Base Tryz.prog)(st:Dyn.St)(o:Dyn.Out)(h:dkLpx m add sh v t k a b 2 st=some o):Dyn.BlockSound Tryz.prog w0 2 (.loop (unloopD (blkD Tryz.f4.body 2))) st o:=by
 simp only[dkLpx,Option.some.injEq]at h
 subst h
 refine side_two λhS hR=>?_
 refine fold_block (fuel:=3) tabTd_ok mo (lp:=dkLpx m add sh v t k a b) (by rw[dk_b2];exact lpOk_cons (λs o h=>by cases h) lpOk_nil) (λi (_:Unit)=>zkSx k (cvF a b) i) k (λ_ _=>()) () (keepR 144 [] [16] zkKx [6]) (keepR_ent 144 _ _ _ _) (λi _=>zkBx k a b i) (λi _=>zk_B m add sh v t k a b i) (λi hi=>?_) ?_ (hS▸keepA_ent 144 _ _ _ _ st)
 ·refine⟨λ_=>⟨⟨⟨by omega,by omega⟩,trivial⟩,λhx=>?_,λ_=>⟨rfl,?_⟩⟩,λhf=>?_⟩
  ·rw[(hR i hi).1,(hR i hi).2]at hx;cases hx
  ·rw[Wn1 hi (by omega)];exact Dyn.Fits.refl _
  ·rw[decide_eq_false_iff_not]at hf
   exact absurd (show(i:Int)<(k:Int)by omega) hf
 ·refine⟨λht=>?_,λ_=>⟨rfl,Dyn.Fits.refl _⟩⟩
  rw[decide_eq_true_eq]at ht
  exact absurd (show(k:Int)<(k:Int)from ht) (by omega)
theorem dk_sides{m:Nat}(hm:m<=12)(add:Nat->Bool){σ:Nat->Shp}(hT:∀i,i<m->TamO (σ i)){v:Vw}(hv:VwG v)(hx : -29<=v.x/\v.x<=29)(hy : -29<=v.y/\v.y<=29)(hp:v.p<=32)(t:Int):(dkO0 m add (λi=>toSh (σ i)) v t).sat λr=>Dyn.RVLe r (rB true):=by
 have hk:=pxN_le hv
 have A:=lstD_ok (n:=m) (f:=dkFx λi=>toSh (σ i)) (add:=λ_=>true) (sub:=σ) (by omega) (λi hi=>⟨(hT i hi).B,(hT i hi).c⟩) λi hi=>.inl rfl
 have hq:∀i,i<m->(i+(band t 255).toNat)%m<m:=λi hi=>Nat.mod_lt _ (by omega)
 have B:=lstD_ok (n:=m) (f:=dkGx m (λi=>toSh (σ i)) t) (add:=λ_=>true) (sub:=λi=>σ ((i+(band t 255).toNat)%m)) (by omega) (λi hi=>⟨(hT _ (hq i hi)).B,(hT _ (hq i hi)).c⟩) λi hi=>.inl (by unfold dkGx;rw[(rotI_eq hi hm).2.2.2])
 have Z:=lstD_ok (n:=0+m+1) (f:=dkZ m add λi=>toSh (σ i)) (add:=zAdd m add) (sub:=zSub m σ) (by omega) (λi hi=>(zTam hT (by omega)).1) λi hi=>zPx1 (by omega)
 have Y:=lstD_ok (n:=0+m+1+m) (f:=dkW m add λi=>toSh (σ i)) (add:=zAdd m add) (sub:=zSub m σ) (by omega) (λi hi=>(zTam hT (by omega)).1) λi hi=>zPx (by omega)
 have gA:=A.2.2 (goodN_of λi hi=>(hT i hi).g)
 have gB:=B.2.2 (goodN_of λi hi=>(hT _ (hq i hi)).g)
 have gZ:=Z.2.2 (goodN_of λi hi=>(zTam hT (by omega)).2)
 have gY:=Y.2.2 (goodN_of λi hi=>(zTam hT (by omega)).2)
 have near:∀i,i<pxN v->∀q,Sb q (pxI v i)->Fits q->figClassC dAll q=2:=λi hi q hs hf=>by
  obtain⟨⟨n1,n2⟩,n3,n4⟩:=px_near hv hx hy hp hi
  exact all_cls hf ⟨⟨by have:=hs.fa;omega,by have:=hs.fb;omega⟩,by have:=hs.fc;omega,by have:=hs.fd;omega⟩
 have e1:∀i,i<pxN v->cvI (lstD m (dkFx λi=>toSh (σ i))) v i=cvI (lstD m (dkGx m (λi=>toSh (σ i)) t)) v i:=λi hi=>cvI_congr hv hi λq _ _=>by
  rw[A.2.1,B.2.1,dark_rot]
 have e2:∀i,i<pxN v->cvI (lstD m (dkFx λi=>toSh (σ i))) v i=cvI (lstD (0+m+1+m) (dkW m add λi=>toSh (σ i))) v i:=λi hi=>cvI_congr hv hi λq hs hf=>by
  rw[A.2.1,Y.2.1,Nat.zero_add,zCls m m add σ (near i hi q hs hf)]
 have e3:∀i,i<pxN v->cvI (lstD (0+m+1) (dkZ m add λi=>toSh (σ i))) v i=(0,0):=λi hi=>by
  have hpx:=px_lt hv hi
  have hd:=px_dv hv hpx.1 hpx.2
  have c0:pClassC (lstD (0+m+1) (dkZ m add λi=>toSh (σ i))) (pxI v i)=0:=by
   have k:=zCls m 0 add σ (near i hi (pxI v i) (Sb.self hd.1) hd.1)
   rw[Z.2.1,Nat.zero_add]
   exact k
  exact cn_all (.inl rfl) _ _ c0
 have sc:∀(f g:Nat->List Dyn.DC) (s s':Shp),(∀i,i<pxN v->cvI s v i=cvI s' v i)->Sym.allP (scP (pxN v) (cvR s v) (pxN v) (cvR s' v)):=λf g s s' h=>⟨λi _=>rfl,λi _=>rfl,⟨rfl,by omega,λi hi=>by
  show(cvI s v i).1=(cvI s' v i).1/\(cvI s v i).2=(cvI s' v i).2
  rw[h i hi];exact⟨rfl,rfl⟩⟩,trivial⟩
 unfold dkO0
 refine⟨⟨rfl,trivial⟩,⟨A.1,gA,hv,trivial⟩,⟨B.1,gB,hv,trivial⟩,⟨szA_ok (by decide) (by omega),szA_ok (by decide) (by omega),Z.1,gZ,hv,trivial⟩,⟨szA_ok (by decide) (by omega),szA_ok (by decide) (by omega),szA_ok (by decide) (by omega),Y.1,gY,hv,trivial⟩,
  ⟨gdF_ok (sc (λ_=>[]) (λ_=>[]) _ _ e1),gdF_ok (sc (λ_=>[]) (λ_=>[]) _ _ e2),trivial⟩,λh=>(by cases h),λ_=>⟨⟨rfl,λi hi=>?_,trivial⟩,ro_leaf rfl⟩⟩
 rw[e3 i hi];exact⟨rfl,rfl⟩
theorem topDark_ok(s:Shp)(hs:ShW s)(v:Vw)(t:Int):Dyn.CallR Tryz.prog 4 [dvL (toSh s),dvV v,dvI t] (rB true):=by
 cases s with
 |nil=>exact hs.elim
 |mk k a b c r l n add sub=>
  have hw:ShW (lForm n add sub):=hs
  have hm:pM n (λi=>partC (add i) (toSh (sub i)))<=12:=Nat.min_le_right _ _
  have hv:=tmW_good v (.inl rfl)
  have hk:=pxN_le hv.1
  refine Dyn.rcontract (lp:=dkLq n (λi=>partC (add i) (toSh (sub i))) v t) (fuel:=6) tabTd_ok mo Tryz.func4 (by kernel_rfl) (c:=bodyD Tryz.f4.body) (by kernel_rfl)
   (λw0=>by rw[dk_blocks];exact lpOk_cons (dk_loop0 _ _ _ _ _ _ _ _ hm w0) (lpOk_cons (λs o h=>by cases h) (lpOk_cons (dk_loop2 _ _ _ _ _ _ _ _ (by show pxN (pW v)<=1000;exact Nat.le_trans hk (by decide)) w0) (lpOk_cons (λs o h=>by cases h) lpOk_nil))))
   (by kernel_rfl) (dk_O n (λi=>partC (add i) (toSh (sub i))) v t) ?_
  have eX:∀m,(obX m λi=>partC (add i) (toSh (sub i)))=toSh (lForm m add sub):=λ_=>rfl
  have i0:0<=i6 n/\i6 n<=(n:Int):=by unfold i6;split<;>omega
  unfold dkO
  rw[eX,eX,ofSh_toSh]
  refine⟨⟨PdW_mk hw,trivial⟩,λ_=>ro_leaf rfl,λh=>?_⟩
  have h1:small21 (lForm n add sub)=true:=by
   cases e:small21 (lForm n add sub)with
   |true=>rfl
   |false=>rw[e]at h;cases h
  have hB:=lf_B h1
  have hB6:ShB (lForm (i6 n).toNat add sub):=⟨hB.1,by have:=hB.2.1;omega,λi hi=>hB.2.2 i (by omega)⟩
  have ex:pX n (λi=>partC (add i) (toSh (sub i)))=lForm (i6 n).toNat add sub:=by unfold pX;rw[eX,ofSh_toSh]
  have eS:pS n (λi=>partC (add i) (toSh (sub i)))=λi=>toSh (tameS (sub i) true 2):=by
   funext i
   unfold pS
   rw[ex];rfl
  have eM:pM n (λi=>partC (add i) (toSh (sub i)))=min (i6 n).toNat 12:=by unfold pM;rw[ex];rfl
  refine⟨⟨i0,PdS_mk hB6,rfl,trivial⟩,?_⟩
  rw[eS]
  exact dk_sides hm _ (λi hi=>tamO (sub i) (hB.2.2 i (by rw[eM]at hi;omega))) hv.1 hv.2.1 hv.2.2.1 hv.2.2.2 t
end Go.Proofs.YtmekpbopoknigaaGreatDoor

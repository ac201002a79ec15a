import Derived.Test.YtmekpbopoknigaaGreatDoorQP
import Derived.Test.YtmekpbopoknigaaGreatDoorQQ
import Derived.Test.YtmekpbopoknigaaGreatDoorQO
namespace Go.Proofs.YtmekpbopoknigaaGreatDoor
open Go Go.RowKit Sym
set_option maxRecDepth 100000
theorem zjr{P:Program}{K:Nat}{args args':List Dyn.DV}{r:Dyn.RV}(h:Dyn.zwh args' args)(k:Dyn.zey P K args r):Dyn.zey P K args' r:=λw F us hF hd=>k w F us hF (Dyn.zql h hd)
theorem ydq{P:Program}{K:Nat}{args:List Dyn.DV}{r r':Dyn.RV}(h:Dyn.RVLe r r')(k:Dyn.zey P K args r):Dyn.zey P K args r':=λw F us hF hd=>by
 have:=k w F us hF hd
 split at this
 ·rename_i u w' hr
  exact⟨Dyn.zjq h this.1,this.2⟩
 ·rename_i f as' w' hr
  refine⟨this.1,this.2.mono λe w'' he=>?_⟩
  obtain⟨u,h1,h2,h3⟩:=he
  exact⟨u,h1,Dyn.zjq h h2,h3⟩
 ·exact this.elim
theorem yoe{P:Program}{K:Nat}{α:Type}{q:Dec α}{e:α->Dyn.DV}{p:α->Prop}{F:α->Dyn.RV}(hq:zix q e p)(h:∀x,p x->Dyn.zey P K [e x] (F x)):Dyn.zn6 P (K,en1D q F):=λargs r ps hr hp=>by
 dsimp only at hr
 unfold en1D at hr
 split at hr
 ·split at hr
  ·rename_i x ps' hx
   simp only[Option.some.injEq,Prod.mk.injEq]at hr
   obtain⟨rfl,rfl⟩:=hr
   obtain⟨h1,h2⟩:=hq _ _ _ hx hp
   exact zjr (args:=[e x]) ⟨h1,trivial⟩ (h x h2)
  ·cases hr
 ·cases hr
theorem zox{P:Program}{K:Nat}{α β:Type}{q:Dec α}{q2:Dec β}{e:α->Dyn.DV}{e2:β->Dyn.DV}{p:α->Prop}{p2:β->Prop}{F:α->β->Dyn.RV}(hq:zix q e p)(hq2:zix q2 e2 p2)(h:∀x y,p x->p2 y->Dyn.zey P K [e x,e2 y] (F x y)):Dyn.zn6 P (K,en2D q q2 F):=λargs r ps hr hp=>by
 dsimp only at hr
 unfold en2D at hr
 split at hr
 ·split at hr
  ·rename_i x ps' y qs' hx hy
   simp only[Option.some.injEq,Prod.mk.injEq]at hr
   obtain⟨rfl,rfl⟩:=hr
   rw[zbp]at hp
   obtain⟨h1,h2⟩:=hq _ _ _ hx hp.1
   obtain⟨h3,h4⟩:=hq2 _ _ _ hy hp.2
   exact zjr (args:=[e x,e2 y]) ⟨h1,h3,trivial⟩ (h x y h2 h4)
  ·cases hr
 ·cases hr
theorem yb9{P:Program}{K:Nat}{α β γ:Type}{q:Dec α}{q2:Dec β}{q3:Dec γ}{e:α->Dyn.DV}{e2:β->Dyn.DV}{e3:γ->Dyn.DV}{p:α->Prop}{p2:β->Prop}{p3:γ->Prop}{F:α->β->γ->Dyn.RV}(hq:zix q e p)(hq2:zix q2 e2 p2)(hq3:zix q3 e3 p3)
  (h:∀x y z,p x->p2 y->p3 z->Dyn.zey P K [e x,e2 y,e3 z] (F x y z)):Dyn.zn6 P (K,en3D q q2 q3 F):=λargs r ps hr hp=>by
 dsimp only at hr
 unfold en3D at hr
 split at hr
 ·split at hr
  ·rename_i x ps' y qs' z rs' hx hy hz
   simp only[Option.some.injEq,Prod.mk.injEq]at hr
   obtain⟨rfl,rfl⟩:=hr
   rw[zbp,zbp]at hp
   obtain⟨h1,h2⟩:=hq _ _ _ hx hp.1.1
   obtain⟨h3,h4⟩:=hq2 _ _ _ hy hp.1.2
   obtain⟨h5,h6⟩:=hq3 _ _ _ hz hp.2
   exact zjr (args:=[e x,e2 y,e3 z]) ⟨h1,h3,h5,trivial⟩ (h x y z h2 h4 h6)
  ·cases hr
 ·cases hr
def zzs(l:Ctr)(sm:Bool)(t:Int)(i:Nat):Dyn.St:=mkS 53 [(0,sH 0 0 l.n),(1,sB sm),(4,.k (.slice none 0 0)),(5,sH 1 0 i),(6,sI t)] [some (.raw [cCtr l]),some (.own 77 i (tamF l sm))]
def zws(l:Ctr)(sm:Bool)(t:Int)(i:Nat)(u:Int)(j:Nat):Dyn.St:=mkS 53 [(0,sH 0 0 l.n),(1,sB sm),(4,.k (.slice none 0 0)),(5,sH 1 0 i),(6,sI t),(7,sH 2 0 j),(8,sI u)] [some (.raw [cCtr l]),some (.own 77 i (tamF l sm)),some (.own 26 j (tamG l sm i))]
def zm9(l:Ctr)(sm:Bool):Dyn.Lp:=λid s=>match id with
 |0=>some (.side [Dyn.nilSlot 5 77 (tamF l sm) (zml 53 [0] ylw 64 s)=zzs l sm 0 0] (.leaf .normal (zzs l sm (min l.n 4:Nat) (min l.n 4))))
 |2=>
  let t:=intD (s.slots.getD 6 .junk)
  some (.side [Dyn.nilSlot 7 26 (tamG l sm t.toNat) (zml 53 [0,1] ylv 256 s)=zws l sm t t.toNat 0 0,0<=t/\t<l.n] (.leaf .normal (zws l sm t t.toNat (min (l.m t.toNat) 12:Nat) (min (l.m t.toNat) 12))))
 |_=>none
def ylu(l:Ctr)(sm:Bool)(t:Int)(i:Nat)(u:Int)(j:Nat)(q:P2):Dyn.St:=mkS 53 [(0,sH 0 0 l.n),(1,sB sm),(4,.k (.slice none 0 0)),(5,sH 1 0 i),(6,sI t),(7,sH 2 0 (j+1)),(8,sI u)] [some (.raw [cCtr l]),some (.own 77 i (tamF l sm)),some (.own 26 (j+1) (Dyn.appF j (tamG l sm i) (λ_=>cP q)))]
def tamVR(l:Ctr)(sm:Bool)(t:Int)(i:Nat):Dyn.St:=mkS 53 [(0,sH 0 0 l.n),(1,sB sm),(4,.k (.slice none 0 0)),(5,sH 1 0 (i+1)),(6,sI t)] [some (.raw [cCtr l]),some (.own 77 (i+1) (Dyn.appF i (tamF l sm) (λ_=>tamF l sm i)))]
def yjp(l:Ctr)(sm:Bool)(t:Int)(i:Nat)(j:Nat):Dyn.Out:=
 .side [0<=t/\t<l.n] (.ite (bif decide ((j:Int)<l.m t.toNat)then decide ((j:Int)<12)else false)
  (.side [0<=t/\t<l.n,0<=(j:Int)/\(j:Int)<l.m t.toNat]
   (.ite sm (.side [W (20+1)≠0] (.side [szP 16 j] (.leaf .normal (ylu l sm t i (W ((j:Int)+1)) j (zdc (lPt (l.p t.toNat j)) 20)))))
    (.side [szP 16 j] (.leaf .normal (ylu l sm t i (W ((j:Int)+1)) j (lPt (l.p t.toNat j)))))))
  (.leaf (.exit 2) (zws l sm t i j j)))
def yjq(l:Ctr)(sm:Bool)(i:Nat):Dyn.Out:=
 .ite (bif decide ((i:Int)<l.n)then decide ((i:Int)<4)else false)
  (.side [zws l sm i i 0 0=zws l sm i i 0 0,0<=(i:Int)/\(i:Int)<l.n] (.side [szP 24 i] (.leaf .normal (tamVR l sm (W ((i:Int)+1)) i)))) (.leaf (.exit 0) (zzs l sm i i))
theorem yls(l:Ctr)(sm:Bool)(t:Int)(i:Nat)(j:Nat):(Dyn.zbm Tryz.prog tabT (zm9 l sm) 3 (zab (blkD Tryz.f33.body 2)) .leaf (zws l sm t i j j)).rl (λ_ s=>zc2 53 [0,1] [7] ylv 0 s)=yjp l sm t i j:=by kernel_rfl
theorem ylt(l:Ctr)(sm:Bool)(i:Nat):(Dyn.zbm Tryz.prog tabT (zm9 l sm) 3 (zab (blkD Tryz.f33.body 0)) .leaf (zzs l sm i i)).rl (λ_ s=>zc2 53 [0] [5] ylw 0 s)=yjq l sm i:=by kernel_rfl
theorem zta(l:Ctr)(sm:Bool)(w0:Dyn.Base Tryz.prog)(s:Dyn.St)(o:Dyn.Out)(h:zm9 l sm 2 s=some o):Dyn.zai Tryz.prog w0 2 (.loop (zab (blkD Tryz.f33.body 2))) s o:=by
 simp only[zm9,Option.some.injEq]at h
 subst h
 refine zdv λhS hi=>?_
 revert hS hi
 generalize intD (s.slots.getD 6 .junk)=t
 intro hS hi
 refine za9 (fuel:=3) zzu mo (lp:=zm9 l sm) (by rw[tam_b2];exact zaa (λs o h=>by cases h) zao) (λj (_:Unit)=>zws l sm t t.toNat j j) (min (l.m t.toNat) 12) (λ_ _=>()) () (λ_ s=>zc2 53 [0,1] [7] ylv 0 s) (λ_ s=>za0 53 _ _ _ 0 s) (λj _=>yjp l sm t t.toNat j) (λj _=>yls l sm t t.toNat j) (λj hj=>?_) ?_ (hS▸(zdd 53 (by decide) _ _ s).trans (Dyn.Ent.nilSlot (P:=Tryz.prog) (k:=1) (by kernel_rfl) _ _))
 ·have e1:W ((j:Int)+1)=((j+1:Nat):Int):=by rw[W_id (by omega) (by omega)];omega
  have fit:∀q,cP q=tamG l sm t.toNat j->Dyn.Fits (ylu l sm t t.toNat (W ((j:Int)+1)) j q) (zws l sm t t.toNat ((j+1:Nat):Int) (j+1)):=λq hq=>by
   rw[e1]
   exact⟨rfl,Dyn.HeLe.refl _,Dyn.HeLe.refl _,zjv hq,trivial⟩
  refine⟨⟨hi,trivial⟩,λ_=>⟨⟨hi,⟨by omega,by omega⟩,trivial⟩,λhs=>⟨⟨by decide,trivial⟩,⟨zgn (by decide) (by omega),trivial⟩,rfl,?_⟩,λhs=>⟨⟨zgn (by decide) (by omega),trivial⟩,rfl,?_⟩⟩,λhf=>?_⟩
  ·subst hs;exact fit _ rfl
  ·subst hs;exact fit _ rfl
  ·rw[Bool.eq_false_iff]at hf
   exact absurd (zkz.2 ⟨by omega,by omega⟩) hf
 ·refine⟨⟨hi,trivial⟩,λht=>?_,λ_=>⟨rfl,Dyn.Fits.refl _⟩⟩
  have:=zkz.1 ht
  omega
theorem z4t(l:Ctr)(sm:Bool)(w0:Dyn.Base Tryz.prog)(s:Dyn.St)(o:Dyn.Out)(h:zm9 l sm 0 s=some o):Dyn.zai Tryz.prog w0 0 (.loop (zab (blkD Tryz.f33.body 0))) s o:=by
 simp only[zm9,Option.some.injEq]at h
 subst h
 refine zcc λhS=>?_
 refine za9 (fuel:=3) zzu mo (lp:=zm9 l sm) (by rw[tam_b0];exact zaa (λs o h=>by cases h) (zaa (zta l sm w0) (zaa (λs o h=>by cases h) zao))) (λi (_:Unit)=>zzs l sm i i) (min l.n 4) (λ_ _=>()) () (λ_ s=>zc2 53 [0] [5] ylw 0 s) (λ_ s=>za0 53 _ _ _ 0 s) (λi _=>yjq l sm i) (λi _=>ylt l sm i) (λi hi=>?_) ?_ (hS▸(zdd 53 (by decide) _ _ s).trans (Dyn.Ent.nilSlot (P:=Tryz.prog) (k:=0) (by kernel_rfl) _ _))
 ·have e1:W ((i:Int)+1)=((i+1:Nat):Int):=by rw[W_id (by omega) (by omega)];omega
  refine⟨λ_=>⟨⟨rfl,⟨by omega,by omega⟩,trivial⟩,⟨zgn (by decide) (by omega),trivial⟩,rfl,?_⟩,λhf=>?_⟩
  ·rw[e1];exact⟨rfl,Dyn.HeLe.refl _,zjv rfl,trivial⟩
  ·rw[Bool.eq_false_iff]at hf
   exact absurd (zkz.2 ⟨by omega,by omega⟩) hf
 ·refine⟨λht=>?_,λ_=>⟨rfl,Dyn.Fits.refl _⟩⟩
  have:=zkz.1 ht
  omega
theorem yfe(l:Ctr)(sm:Bool):Dyn.zey Tryz.prog 33 [dvC l,dvB sm] (.val (dvC (z4r l sm))):=
 Dyn.zh9 (lp:=zm9 l sm) (fuel:=3) (X:=tabT) zzu mo Tryz.func33 (by kernel_rfl) (c:=zbx Tryz.f33.body) (by kernel_rfl)
  (λw0=>by rw[z4u];exact zaa (z4t l sm w0) (zaa (λs o h=>by cases h) (zaa (zta l sm w0) (zaa (λs o h=>by cases h) zao))))
  (by kernel_rfl) (O:=.side [zzs l sm 0 0=zzs l sm 0 0] (.leaf (.val (.one (.row (min l.n 4) (tamF l sm)))))) (by kernel_rfl) ⟨⟨rfl,trivial⟩,rfl,λ_ _=>rfl⟩
def zzb(x:Sh)(g:Sh->Int->Bool):Prop:=∀d,Dyn.zey Tryz.prog 14 [dvS x,dvI d] (rB (g x d))
def yjs(Pd:Sh->Prop)(g:Sh->Int->Bool):Dyn.Tabs:=Dyn.trT (Dyn.tabs tbF [] noD dtyP) (tdSm Pd g)
theorem z8r{Pd:Sh->Prop}{g:Sh->Int->Bool}(ih:∀x,Pd x->zzb x g):Dyn.zal Tryz.prog (yjs Pd g):=
 Dyn.zqr (Dyn.zb0 zcy (λ_ h=>by cases h)) (List.forall_mem_cons.2 ⟨zox (zbl zgt) zz5 λx p h _=>ih x h.1 p,λ_ h=>by cases h⟩)
def smHR(s:Sh):List (Option Dyn.HE):=[some (.raw (cS s)),some (.cells 37 (shV 0 8 s))]
def smSR(s:Sh)(deep i:Int):Dyn.St:=mkS 52 [(1,sI deep),(2,sL 1),(4,.k (vb false)),(5,sI i)] (smHR s)
def smTR(s:Sh)(deep i:Int):Dyn.St:=mkS 52 [(1,sI deep),(2,sL 1),(4,.k (vb false)),(6,sI i)] (smHR s)
def zss(g:Sh->Int->Bool)(sh:Nat->Sh)(s:Sh)(deep:Int):Dyn.Lp:=λid st=>match id with
 |0=>some (.side [zc2 52 [0,1] [] smK0 (2 ^ 5) st=smSR s deep 0,s.l.n<=12] (.ite (runN (smL s.l) () s.l.n).1 (.leaf .normal (smSR s deep s.l.n)) (.leaf .ret smR)))
 |2=>some (.side [zc2 52 [0,1] [] smK1 (2 ^ 6) st=smTR s deep 0,s.n<=12] (.ite (runN (smP g sh deep) () s.n).1 (.leaf .normal (smTR s deep s.n)) (.leaf .ret smR)))
 |_=>none
def smB0R(s:Sh)(deep:Int)(i:Nat):Dyn.Out:=
 .ite (decide ((i:Int)<s.l.n)) (.side [0<=(i:Int)/\(i:Int)<s.l.n] (.ite (decide ((s.l.m i:Int)>40)) (.leaf .ret smR) (.leaf .normal (smSR s deep (W (i+1)))))) (.leaf (.exit 0) (smSR s deep i))
def smB2R(Pd:Sh->Prop)(g:Sh->Int->Bool)(sh:Nat->Sh)(s:Sh)(deep:Int)(i:Nat):Dyn.Out:=
 .ite (decide ((i:Int)<s.n)) (.side [0<=(i:Int)/\(i:Int)<s.n,Pd (sh i),zbz (sh i).l] (.ite (!(g (sh i) (W (deep+1)))) (.leaf .ret smR) (.leaf .normal (smTR s deep (W (i+1)))))) (.leaf (.exit 2) (smTR s deep i))
theorem sm_B0R(Pd:Sh->Prop)(g:Sh->Int->Bool)(sh:Nat->Sh)(s:Sh)(deep:Int)(i:Nat):(Dyn.zbm Tryz.prog (yjs Pd g) (zss g sh s deep) 3 (zab (blkD Tryz.f14.body 0)) .leaf (smSR s deep i)).rl (zeu 52 [0,1] [] smK0 [4])=smB0R s deep i:=by kernel_rfl
def yjr(Pd:Sh->Prop)(g:Sh->Int->Bool):Dyn.Tabs:=Dyn.trT (Dyn.tabs tbF [] noD dtyS) (tdSm Pd g)
theorem z8q{Pd:Sh->Prop}{g:Sh->Int->Bool}(ih:∀x,Pd x->zzb x g):Dyn.zal Tryz.prog (yjr Pd g):=
 Dyn.zqr (Dyn.zb0 zcy (λ_ h=>by cases h)) (List.forall_mem_cons.2 ⟨zox (zbl zgt) zz5 λx p h _=>ih x h.1 p,λ_ h=>by cases h⟩)
theorem sm_B2R(Pd:Sh->Prop)(g:Sh->Int->Bool)(k:Int)(a b c:P2)(r:Int)(l:Ctr)(n:Nat)(add:Nat->Bool)(sh:Nat->Sh)(deep:Int)(i:Nat) :
  (Dyn.zbm Tryz.prog (yjr Pd g) (zss g sh (mkSh k a b c r l n add sh) deep) 3 (zab (blkD Tryz.f14.body 2)) .leaf (smTR (mkSh k a b c r l n add sh) deep i)).rl (zeu 52 [0,1] [] smK1 [4])=smB2R Pd g sh (mkSh k a b c r l n add sh) deep i:=by kernel_rfl
theorem z9e{Pd:Sh->Prop}{g:Sh->Int->Bool}(ih:∀x,Pd x->zzb x g)(sh:Nat->Sh)(s:Sh)(deep:Int)(w0:Dyn.Base Tryz.prog)(st:Dyn.St)(o:Dyn.Out)(h:zss g sh s deep 0 st=some o):Dyn.zai Tryz.prog w0 0 (.loop (zab (blkD Tryz.f14.body 0))) st o:=by
 simp only[zss,Option.some.injEq]at h
 subst h
 refine zdv λhS hn=>?_
 refine zfv (fuel:=3) (z8r ih) mo (lp:=zss g sh s deep) (by rw[sm_b0];exact zaa (λs o h=>by cases h) zao) (λi (_:Unit)=>smSR s deep i) s.l.n (smL s.l) () (λ_=>smR) (zeu 52 [0,1] [] smK0 [4]) (zcq 52 _ _ _ _) (λi _=>smB0R s deep i) (λi _=>sm_B0R Pd g sh s deep i) (λi a hi ha=>?_) (λa ha=>?_) (hS▸za0 52 _ _ _ _ st)
 ·refine⟨λ_=>⟨⟨⟨by omega,by omega⟩,trivial⟩,λhx=>.inr ⟨rfl,?_,Dyn.Fits.refl _⟩,λhx=>.inl ⟨rfl,?_,?_⟩⟩,λhf=>?_⟩
  ·unfold smL;rw[hx];rfl
  ·unfold smL;rw[hx];rfl
  ·rw[Wn1 hi (by omega)];exact Dyn.Fits.refl _
  ·rw[decide_eq_false_iff_not]at hf;omega
 ·refine⟨λht=>?_,λ_=>⟨rfl,Dyn.Fits.refl _⟩⟩
  rw[decide_eq_true_eq]at ht;omega
theorem z9d{Pd:Sh->Prop}{g:Sh->Int->Bool}(ih:∀x,Pd x->zzb x g)(k:Int)(a b c:P2)(r:Int)(l:Ctr)(n:Nat)(add:Nat->Bool)(sh:Nat->Sh)(hP:∀i,i<n->Pd (sh i))(deep:Int)(w0:Dyn.Base Tryz.prog)(st:Dyn.St)(o:Dyn.Out)(h:zss g sh (mkSh k a b c r l n add sh) deep 2 st=some o):Dyn.zai Tryz.prog w0 2 (.loop (zab (blkD Tryz.f14.body 2))) st o:=by
 simp only[zss,Option.some.injEq]at h
 subst h
 refine zdv λhS hn=>?_
 have hn':n<=12:=hn
 refine zfv (fuel:=3) (z8q ih) mo (lp:=zss g sh (mkSh k a b c r l n add sh) deep) (by rw[sm_b2];exact zaa (λs o h=>by cases h) zao) (λi (_:Unit)=>smTR (mkSh k a b c r l n add sh) deep i) n (smP g sh deep) () (λ_=>smR) (zeu 52 [0,1] [] smK1 [4]) (zcq 52 _ _ _ _) (λi _=>smB2R Pd g sh (mkSh k a b c r l n add sh) deep i) (λi _=>sm_B2R Pd g k a b c r l n add sh deep i) (λi a hi ha=>?_) (λa ha=>?_) (hS▸za0 52 _ _ _ _ st)
 ·refine⟨λ_=>⟨⟨⟨by omega,by show(i:Int)<(n:Int);omega⟩,hP i hi,zau _,trivial⟩,λhx=>.inr ⟨rfl,?_,Dyn.Fits.refl _⟩,λhx=>.inl ⟨rfl,?_,?_⟩⟩,λhf=>?_⟩
  ·simpa [smP]using hx
  ·simpa [smP]using hx
  ·rw[Wn1 hi (by omega)];exact Dyn.Fits.refl _
  ·rw[decide_eq_false_iff_not]at hf
   exact absurd (show(i:Int)<(n:Int)by omega) hf
 ·refine⟨λht=>?_,λ_=>⟨rfl,Dyn.Fits.refl _⟩⟩
  rw[decide_eq_true_eq]at ht
  exact absurd (show(n:Int)<(n:Int)from ht) (by omega)
def yju(Pd:Sh->Prop)(g:Sh->Int->Bool):Dyn.Tabs:=Dyn.trT (Dyn.tabs tbF [] noD noD) (tdSm Pd g)
theorem z8u{Pd:Sh->Prop}{g:Sh->Int->Bool}(ih:∀x,Pd x->zzb x g):Dyn.zal Tryz.prog (yju Pd g):=
 Dyn.zqr (Dyn.zb0 zcy (λ_ h=>by cases h)) (List.forall_mem_cons.2 ⟨zox (zbl zgt) zz5 λx p h _=>ih x h.1 p,λ_ h=>by cases h⟩)
def smOR(g:Sh->Int->Bool)(sh:Nat->Sh)(s:Sh)(deep:Int):Dyn.RO:=
 .ite (yf4 s deep) (.leaf (rB false)) (.side [smSR s deep 0=smSR s deep 0,s.l.n<=12] (.ite (runN (smL s.l) () s.l.n).1 (.side [smTR s deep 0=smTR s deep 0,s.n<=12] (.ite (runN (smP g sh deep) () s.n).1 (.leaf (rB true)) (.leaf (rB false)))) (.leaf (rB false))))
theorem sm_OR(Pd:Sh->Prop)(g:Sh->Int->Bool)(sh:Nat->Sh)(s:Sh)(deep:Int):(Dyn.rfun Tryz.prog (yju Pd g) (zss g sh s deep) 3 Tryz.f14 [dvS s,dvI deep]).ro Tryz.prog Tryz.f14.results=smOR g sh s deep:=by kernel_rfl
theorem ymf(g:Sh->Int->Bool)(sh:Nat->Sh)(s:Sh)(deep:Int):(smOR g sh s deep).sat λr=>Dyn.RVLe r (rB (zwx g sh s deep)):=by
 have e:zwx g sh s deep=bif yf4 s deep then false else bif (runN (smL s.l) () s.l.n).1 then(runN (smP g sh deep) () s.n).1 else false:=rfl
 rw[e]
 have hb:yf4 s deep=false->s.l.n<=12/\s.n<=12:=λh=>by
  unfold yf4 at h
  by_cases h1:((s.n:Int)>12)
  ·rw[decide_eq_true h1]at h;cases h
  ·by_cases h2:((s.l.n:Int)>12)
   ·rw[decide_eq_true h2,decide_eq_false h1]at h;cases h
   ·omega
 refine⟨λh=>?_,λh=>⟨⟨rfl,(hb h).1,trivial⟩,λh2=>⟨⟨rfl,(hb h).2,trivial⟩,λh3=>?_,λh3=>?_⟩,λh2=>?_⟩⟩
 ·rw[h];exact zby rfl
 ·rw[h,h2,h3];exact zby rfl
 ·rw[h,h2,h3];exact zby rfl
 ·rw[h,h2];exact zby rfl
theorem z4y{Pd:Sh->Prop}{g:Sh->Int->Bool}(ih:∀x,Pd x->zzb x g)(k:Int)(a b c:P2)(r:Int)(l:Ctr)(n:Nat)(add:Nat->Bool)(sh:Nat->Sh)(hP:∀i,i<n->Pd (sh i))(deep:Int) :
  Dyn.zey Tryz.prog 14 [dvS (mkSh k a b c r l n add sh),dvI deep] (rB (zwx g sh (mkSh k a b c r l n add sh) deep)):=
 Dyn.zh9 (lp:=zss g sh (mkSh k a b c r l n add sh) deep) (fuel:=3) (z8u ih) mo Tryz.func14 (by kernel_rfl) (c:=zbx Tryz.f14.body) (by kernel_rfl)
  (λw0=>by rw[z9f];exact zaa (z9e ih sh _ deep w0) (zaa (λs o h=>by cases h) (zaa (z9d ih k a b c r l n add sh hP deep w0) (zaa (λs o h=>by cases h) zao))))
  (by kernel_rfl) (sm_OR Pd g sh _ deep) (ymf g sh _ deep)
theorem z9c:∀s:Shp,ShW s->zzb (toSh s) zj9:=by
 intro s
 induction s with
 |nil=>intro h;exact h.elim
 |mk k a b c r l n add sub ih=>
  intro h d
  rw[zqy,z40]
  exact z4y (Pd:=λx=>∃i,i<n/\x=toSh (sub i)) (λx hx=>by
   obtain⟨i,hi,rfl⟩:=hx
   exact ih i (h i hi)) k a b c r l n add (λi=>toSh (sub i)) (λi hi=>⟨i,hi,rfl⟩) d
theorem z4z:∀x,PdW x->zzb x zj9:=λx hx d=>by
 have k:=z9c _ hx.1 d
 rw[show zj9 (toSh (ofSh x)) d=zj9 x d by unfold zj9;rw[za7]]at k
 exact zjr (args:=dvS (toSh (ofSh x))::[dvI d]) ⟨SLe.dv hx.2,Dyn.DVLe.refl _,trivial⟩ k
def tdTmR(Pd:Sh->Prop)(g:Sh->Bool->Int->Sh):List Dyn.zb2:=[(33,en2D qC qB λl q=>.val (dvC (z4r l q))),(16,en3D (qAnd qS Pd) qB qI λx q d=>.val (dvS (g x q d)))]
def z8o(Pd:Sh->Prop)(g:Sh->Bool->Int->Sh):Dyn.Tabs:=Dyn.trT (Dyn.tabs tbT [(30,enPb λp q=>RV.pt (atP p q))] drTm dtyS) (tdTmR Pd g)
theorem zwt{Pd:Sh->Prop}{g:Sh->Bool->Int->Sh}(ih:∀x,Pd x->∀sm d,Dyn.zey Tryz.prog 16 [dvS x,dvB sm,dvI d] (.val (dvS (g x sm d)))):Dyn.zal Tryz.prog (z8o Pd g):=
 Dyn.zqr (Dyn.zb0 yi1 (List.forall_mem_cons.2 ⟨yn9 at_ok,λ_ h=>by cases h⟩)) (List.forall_mem_cons.2 ⟨zox ymq ygg λl q _ _=>yfe l q,List.forall_mem_cons.2 ⟨yb9 (zbl zgt) ygg zz5 λx q d h _ _=>ih x h.1 q d,λ_ h=>by cases h⟩⟩)
def tmSR(s:Sh)(sm:Bool)(d i:Int)(n:Nat)(f:Nat->List Dyn.DC):Dyn.St:=mkS 154 [(2,sI d),(3,sL 1),(4,sL 2),(6,sL 3),(8,sL 4),(10,sI i)]
 [some (.raw (cS s)),some (.cells 37 (shV 0 8 s)),some (.cells 4 [vb sm]),some (.cells 37 tmZ),some (.cells 37 (tmO10 (tmKk s d) 5 n)),some (.own 79 n f)]
def z4p(g:Sh->Bool->Int->Sh)(sh:Nat->Sh)(add:Nat->Bool)(s:Sh)(sm:Bool)(d:Int):Dyn.Lp:=λid st=>match id with
 |1=>some (.side [Dyn.nilCell 4 9 79 (tmF g sh add sm d) (zc2 154 [0,1,2] [6,8] tmK (2 ^ 10) st)=tmSR s sm d 0 0 (tmF g sh add sm d)] (.leaf .normal (tmSR s sm d (tmN s d:Nat) (tmN s d) (tmF g sh add sm d))))
 |_=>none
def tmBdR(Pd:Sh->Prop)(g:Sh->Bool->Int->Sh)(sh:Nat->Sh)(add:Nat->Bool)(s:Sh)(sm:Bool)(d:Int)(i:Nat):Dyn.Out:=
 .ite (bif decide ((i:Int)<s.n)then decide ((i:Int)<imax (W (4-d)) 1)else false)
  (.side [0<=(i:Int)/\(i:Int)<s.n,0<=(i:Int)/\(i:Int)<s.n,Pd (sh i),zbz (sh i).l,szP 120 i] (.leaf .normal (tmSR s sm d (W (i+1)) (i+1) (Dyn.appF i (tmF g sh add sm d) (λ_=>tmF g sh add sm d i)))))
  (.leaf (.exit 1) (tmSR s sm d i i (tmF g sh add sm d)))
theorem tm_BdR(Pd:Sh->Prop)(g:Sh->Bool->Int->Sh)(k:Int)(a b c:P2)(r:Int)(l:Ctr)(n:Nat)(add:Nat->Bool)(sh:Nat->Sh)(sm:Bool)(d:Int)(i:Nat) :
  (Dyn.zbm Tryz.prog (z8o Pd g) (z4p g sh add (mkSh k a b c r l n add sh) sm d) 3 (zab (blkD Tryz.f16.body 1)) .leaf (tmSR (mkSh k a b c r l n add sh) sm d i i (tmF g sh add sm d))).rl (zfc 154 [0,1,2,3,4] [] [(4,9)] tmK [] [])=tmBdR Pd g sh add (mkSh k a b c r l n add sh) sm d i:=by kernel_rfl
theorem yd3{Pd:Sh->Prop}{g:Sh->Bool->Int->Sh}(ih:∀x,Pd x->∀sm d,Dyn.zey Tryz.prog 16 [dvS x,dvB sm,dvI d] (.val (dvS (g x sm d))))(k:Int)(a b c:P2)(r:Int)(l:Ctr)(n:Nat)(add:Nat->Bool)(sh:Nat->Sh)(hn:n<=1000000000)(hP:∀i,i<n->Pd (sh i))(sm:Bool)(d:Int)(w0:Dyn.Base Tryz.prog)(st:Dyn.St)(o:Dyn.Out)
  (h:z4p g sh add (mkSh k a b c r l n add sh) sm d 1 st=some o):Dyn.zai Tryz.prog w0 1 (.loop (zab (blkD Tryz.f16.body 1))) st o:=by
 simp only[z4p,Option.some.injEq]at h
 subst h
 refine zcc λhS=>?_
 have hN:tmN (mkSh k a b c r l n add sh) d=min n (imax (W (4-d)) 1).toNat:=rfl
 have hM:1<=imax (W (4-d)) 1:=by unfold imax;split<;>omega
 refine za9 (fuel:=3) (zwt ih) mo (lp:=z4p g sh add (mkSh k a b c r l n add sh) sm d) (by rw[tm_b1];exact zaa (λs o h=>by cases h) zao) (λi (_:Unit)=>tmSR (mkSh k a b c r l n add sh) sm d i i (tmF g sh add sm d)) (tmN (mkSh k a b c r l n add sh) d) (λ_ _=>()) () (zfc 154 [0,1,2,3,4] [] [(4,9)] tmK [] []) (zed 154 _ _ _ _ _ _) (λi _=>tmBdR Pd g sh add (mkSh k a b c r l n add sh) sm d i) (λi _=>tm_BdR Pd g k a b c r l n add sh sm d i) (λi hi=>?_) ?_ (hS▸(za0 154 _ _ _ _ st).trans (Dyn.Ent.nilCell (P:=Tryz.prog) (k:=10) (by kernel_rfl) _ _))
 ·rw[hN]at hi
  refine⟨λ_=>⟨⟨⟨by omega,by show(i:Int)<(n:Int);omega⟩,⟨by omega,by show(i:Int)<(n:Int);omega⟩,hP i (by omega),zau _,zgn (by decide) (by omega),trivial⟩,rfl,?_⟩,λhf=>?_⟩
  ·rw[Wn1 (show i<n by omega) hn]
   exact⟨rfl,Dyn.HeLe.refl _,Dyn.HeLe.refl _,Dyn.HeLe.refl _,Dyn.HeLe.refl _,Dyn.HeLe.refl _,zjv rfl,trivial⟩
  ·rw[Bool.eq_false_iff]at hf
   exact absurd (zkz.2 ⟨show(i:Int)<(n:Int)by omega,by omega⟩) hf
 ·refine⟨λht=>?_,λ_=>⟨rfl,Dyn.Fits.refl _⟩⟩
  have ht:=zkz.1 ht
  have h1:((tmN (mkSh k a b c r l n add sh) d:Nat):Int)<(n:Int):=ht.1
  have h2:=ht.2
  rw[hN]at h1 h2
  omega
def ylf(g:Sh->Bool->Int->Sh)(sh:Nat->Sh)(add:Nat->Bool)(s:Sh)(sm:Bool)(d r:Int):Dyn.RO:=
 .ite (tmKk s d==1) (.leaf (rvT (tmKk s d) (atP s.a sm) ze ze r nilR 0 noF))
 (.ite (bif tmKk s d==3 then tmKk s d==3 else tmKk s d==4)
  (.ite (bif eqP (atP s.a sm) (atP s.b sm)then decide ((atP s.b sm).x>0)else false) (.leaf (rvT (tmKk s d) (atP s.a sm) ⟨W ((atP s.b sm).x-1),(atP s.b sm).y⟩ ze r nilR 0 noF))
   (.ite (eqP (atP s.a sm) (atP s.b sm)) (.leaf (rvT (tmKk s d) (atP s.a sm) ⟨W ((atP s.b sm).x+1),(atP s.b sm).y⟩ ze r nilR 0 noF)) (.leaf (rvT (tmKk s d) (atP s.a sm) (atP s.b sm) ze r nilR 0 noF))))
 (.ite (tmKk s d==5) (.leaf (rvT (tmKk s d) (zm0 s.c (band s.a.x 65535) s.b.x sm) (zm0 s.c (band s.a.y 65535) s.b.x sm) (arcC s.c sm) r nilR 0 noF))
 (.ite (tmKk s d==2) (.side [zbz s.l] (.leaf (rvT (tmKk s d) ze ze ze 0 (cCtr (z4r s.l sm)) 0 noF)))
 (.side [tmSR s sm d 0 0 (tmF g sh add sm d)=tmSR s sm d 0 0 (tmF g sh add sm d)] (.leaf (rvT (tmKk s d) ze ze ze 0 nilR (tmN s d) (tmF g sh add sm d)))))))
theorem tm_OR(Pd:Sh->Prop)(g:Sh->Bool->Int->Sh)(sh:Nat->Sh)(add:Nat->Bool)(s:Sh)(sm:Bool)(d:Int):(Dyn.rfun Tryz.prog (z8o Pd g) (z4p g sh add s sm d) 3 Tryz.f16 [dvS s,dvB sm,dvI d]).ro Tryz.prog Tryz.f16.results=.ite sm (ylf g sh add s sm d (W ((lR s.r).tmod 15+1))) (ylf g sh add s sm d (lR s.r)):=by kernel_rfl
theorem z1z(g:Sh->Bool->Int->Sh)(sh:Nat->Sh)(add:Nat->Bool)(s:Sh)(sm:Bool)(d:Int):(ylf g sh add s sm d (tmR s sm)).sat λr=>Dyn.RVLe r (.val (dvS (z8i g sh add s sm d))):=by
 unfold z8i
 refine⟨λh=>?_,λh=>⟨λh2=>⟨λh3=>?_,λh3=>⟨λh4=>?_,λh4=>?_⟩⟩,λh2=>⟨λh3=>?_,λh3=>⟨λh4=>⟨⟨zau _,trivial⟩,?_⟩,λh4=>⟨⟨rfl,trivial⟩,?_⟩⟩⟩⟩⟩
 ·rw[h];exact zhj rfl rfl rfl rfl rfl zfj rfl λ_ _=>rfl
 ·rw[h,h2];exact zhj rfl rfl (by show tmB s sm=_;unfold tmB;rw[h3];rfl) rfl rfl zfj rfl λ_ _=>rfl
 ·rw[h,h2];exact zhj rfl rfl (by show tmB s sm=_;unfold tmB;rw[h3,h4];rfl) rfl rfl zfj rfl λ_ _=>rfl
 ·rw[h,h2];exact zhj rfl rfl (by show tmB s sm=_;unfold tmB;rw[h3,h4];rfl) rfl rfl zfj rfl λ_ _=>rfl
 ·rw[h,h2,h3];exact zhj rfl rfl rfl rfl rfl zfj rfl λ_ _=>rfl
 ·rw[h,h2,h3,h4];exact zhj rfl rfl rfl rfl rfl (Dyn.DCLe.refl _) rfl λ_ _=>rfl
 ·rw[h,h2,h3,h4];exact zhj rfl rfl rfl rfl rfl zfj rfl λ_ _=>rfl
theorem z8f{Pd:Sh->Prop}{g:Sh->Bool->Int->Sh}(ih:∀x,Pd x->∀sm d,Dyn.zey Tryz.prog 16 [dvS x,dvB sm,dvI d] (.val (dvS (g x sm d))))(k:Int)(a b c:P2)(r:Int)(l:Ctr)(n:Nat)(add:Nat->Bool)(sh:Nat->Sh)(hn:n<=1000000000)(hP:∀i,i<n->Pd (sh i))(sm:Bool)(d:Int) :
  Dyn.zey Tryz.prog 16 [dvS (mkSh k a b c r l n add sh),dvB sm,dvI d] (.val (dvS (z8i g sh add (mkSh k a b c r l n add sh) sm d))):=
 Dyn.zh9 (lp:=z4p g sh add (mkSh k a b c r l n add sh) sm d) (fuel:=3) (zwt ih) mo Tryz.func16 (by kernel_rfl) (c:=zbx Tryz.f16.body) (by kernel_rfl)
  (λw0=>by rw[z7o];exact zaa (λs o h=>by cases h) (zaa (yd3 ih k a b c r l n add sh hn hP sm d w0) (zaa (λs o h=>by cases h) zao)))
  (by kernel_rfl) (tm_OR Pd g sh add _ sm d) (by
   cases sm
   ·exact⟨λh=>(by cases h),λ_=>z1z g sh add _ false d⟩
   ·exact⟨λ_=>z1z g sh add _ true d,λh=>(by cases h)⟩)
theorem z8j:∀s:Shp,ShB s->∀sm d,Dyn.zey Tryz.prog 16 [dvS (toSh s),dvB sm,dvI d] (.val (dvS (zpq (toSh s) sm d))):=by
 intro s
 induction s with
 |nil=>intro h;exact h.elim
 |mk k a b c r l n add sub ih=>
  intro h sm d
  rw[zun]
  refine ydq (r:=.val (dvS (z8i zpq (λi=>toSh (sub i)) add (mkSh k a b c r l n add (λi=>toSh (sub i))) sm d))) (z8h k a b c r l n add sub sm d) ?_
  exact z8f (Pd:=λx=>∃i,i<n/\x=toSh (sub i)) (λx hx=>by
   obtain⟨i,hi,rfl⟩:=hx
   exact ih i (h.2.2 i hi)) k a b c r l n add (λi=>toSh (sub i)) h.2.1 (λi hi=>⟨i,hi,rfl⟩) sm d
theorem z8g:∀x,PdS x->∀sm d,Dyn.zey Tryz.prog 16 [dvS x,dvB sm,dvI d] (.val (dvS (zpq x sm d))):=λx hx sm d=>by
 have k:=z8j _ hx.1 sm d
 rw[show zpq (toSh (ofSh x)) sm d=zpq x sm d by unfold zpq;rw[za7]]at k
 exact zjr (args:=dvS (toSh (ofSh x))::[dvB sm,dvI d]) ⟨SLe.dv hx.2,Dyn.DVLe.refl _,Dyn.DVLe.refl _,trivial⟩ k
noncomputable def z8t:Dyn.Tabs:=Dyn.trT (Dyn.tabs tbF [] noD dtyO) tdSb
theorem zwv:Dyn.zal Tryz.prog z8t:=Dyn.zqr (Dyn.zb0 zcy (λ_ h=>by cases h)) (List.forall_mem_cons.2 ⟨zox (zbl zgt) zz5 λx d h _=>z4z x h.1 d,λ_ h=>by cases h⟩)
def sbSR(s:Sh)(i:Int):Dyn.St:=mkS 20 [(0,sH 0 0 s.n),(2,.k (vb false)),(3,sI i)] [some (.raw [.row s.n s.f])]
noncomputable def z41(sh:Nat->Sh)(s:Sh):Dyn.Lp:=λid st=>match id with
 |0=>some (.side [zc2 20 [0] [] sbK (2 ^ 3) st=sbSR s 0,s.n<=20] (.ite (runN (sbG sh) () s.n).1 (.leaf .normal (sbSR s s.n)) (.leaf .ret sbR)))
 |_=>none
noncomputable def sbBR(sh:Nat->Sh)(s:Sh)(i:Nat):Dyn.Out:=
 .ite (decide ((i:Int)<s.n)) (.side [0<=(i:Int)/\(i:Int)<s.n,PdW (sh i),zbz (sh i).l] (.ite (!(zj9 (sh i) 0)) (.leaf .ret sbR) (.leaf .normal (sbSR s (W (i+1)))))) (.leaf (.exit 0) (sbSR s i))
theorem sb_BR(n:Nat)(add:Nat->Bool)(sh:Nat->Sh)(i:Nat):(Dyn.zbm Tryz.prog z8t (z41 sh (mkL n add sh)) 3 (zab (blkD Tryz.f5.body 0)) .leaf (sbSR (mkL n add sh) i)).rl (zeu 20 [0] [] sbK [2])=sbBR sh (mkL n add sh) i:=by kernel_rfl
theorem yf5(n:Nat)(add:Nat->Bool)(sh:Nat->Sh)(hP:∀i,i<n->PdW (sh i))(w0:Dyn.Base Tryz.prog)(st:Dyn.St)(o:Dyn.Out)(h:z41 sh (mkL n add sh) 0 st=some o):Dyn.zai Tryz.prog w0 0 (.loop (zab (blkD Tryz.f5.body 0))) st o:=by
 simp only[z41,Option.some.injEq]at h
 subst h
 refine zdv λhS hn=>?_
 have hn':n<=20:=hn
 refine zfv (fuel:=3) zwv mo (lp:=z41 sh (mkL n add sh)) (by rw[sb_b0];exact zaa (λs o h=>by cases h) zao) (λi (_:Unit)=>sbSR (mkL n add sh) i) n (sbG sh) () (λ_=>sbR) (zeu 20 [0] [] sbK [2]) (zcq 20 _ _ _ _) (λi _=>sbBR sh (mkL n add sh) i) (λi _=>sb_BR n add sh i) (λi a hi ha=>?_) (λa ha=>?_) (hS▸za0 20 _ _ _ _ st)
 ·refine⟨λ_=>⟨⟨⟨by omega,by show(i:Int)<(n:Int);omega⟩,hP i hi,zau _,trivial⟩,λhx=>.inr ⟨rfl,?_,Dyn.Fits.refl _⟩,λhx=>.inl ⟨rfl,?_,?_⟩⟩,λhf=>?_⟩
  ·simpa [sbG]using hx
  ·simpa [sbG]using hx
  ·rw[Wn1 hi (by omega)];exact Dyn.Fits.refl _
  ·rw[decide_eq_false_iff_not]at hf
   exact absurd (show(i:Int)<(n:Int)by omega) hf
 ·refine⟨λht=>?_,λ_=>⟨rfl,Dyn.Fits.refl _⟩⟩
  rw[decide_eq_true_eq]at ht
  exact absurd (show(n:Int)<(n:Int)from ht) (by omega)
noncomputable def sbOR(sh:Nat->Sh)(s:Sh):Dyn.RO:=
 .ite (decide ((s.n:Int)>20)) (.leaf (rB false)) (.side [sbSR s 0=sbSR s 0,s.n<=20] (.ite (runN (sbG sh) () s.n).1 (.leaf (rB true)) (.leaf (rB false))))
theorem sb_OR(sh:Nat->Sh)(s:Sh):(Dyn.rfun Tryz.prog z8t (z41 sh s) 3 Tryz.f5 [dvL s]).ro Tryz.prog Tryz.f5.results=sbOR sh s:=by kernel_rfl
theorem ymi(n:Nat)(add:Nat->Bool)(sh:Nat->Sh)(hP:∀i,i<n->PdW (sh i)):Dyn.zey Tryz.prog 5 [dvL (mkL n add sh)] (rB (bif decide ((n:Int)>20)then false else(runN (sbG sh) () n).1)):=
 Dyn.zh9 (lp:=z41 sh (mkL n add sh)) (fuel:=3) zwv mo Tryz.func5 (by kernel_rfl) (c:=zbx Tryz.f5.body) (by kernel_rfl)
  (λw0=>by rw[z9n];exact zaa (yf5 n add sh hP w0) (zaa (λs o h=>by cases h) zao))
  (by kernel_rfl) (sb_OR sh _) (by
   refine⟨λh=>?_,λh=>⟨⟨rfl,?_,trivial⟩,λh2=>?_,λh2=>?_⟩⟩
   ·rw[show decide ((n:Int)>20)=true from h];exact zby rfl
   ·have:¬(n:Int)>20:=of_decide_eq_false h
    show n<=20
    omega
   ·rw[show decide ((n:Int)>20)=false from h,show(runN (sbG sh) () n).1=true from h2];exact zby rfl
   ·rw[show decide ((n:Int)>20)=false from h,show(runN (sbG sh) () n).1=false from h2];exact zby rfl)
theorem zzx:∀s:Shp,ShW s->Dyn.zey Tryz.prog 5 [dvL (toSh s)] (rB (zka s)):=by
 intro s h
 cases s with
 |nil=>exact h.elim
 |mk k a b c r l n add sub=>
  have q:=ymi n add (λi=>toSh (sub i)) λi hi=>yky (h i hi)
  unfold sbG at q
  simp only[zqy]at q
  exact q
theorem zwy(x:Sh)(h:PdW x):Dyn.zey Tryz.prog 5 [dvL x] (rB (zka (ofSh x))):=zjr (args:=[dvL (toSh (ofSh x))]) ⟨SLe.dvL h.2,trivial⟩ (zzx _ h.1)
noncomputable def z8p:Dyn.Tabs:=Dyn.trT (Dyn.tabs tbF [] drTl dtyO) tdTl
theorem zwu:Dyn.zal Tryz.prog z8p:=Dyn.zqr (Dyn.zb0 zcy (λ_ h=>by cases h)) (List.forall_mem_cons.2 ⟨yb9 (zbl zgt) ygg zz5 λx q d h _ _=>z8g x h.1 q d,λ_ h=>by cases h⟩)
noncomputable def tlSR(s:Sh)(add:Nat->Bool)(sh:Nat->Sh)(sm:Bool)(t:Int)(i:Nat):Dyn.St:=mkS 34 [(0,sH 0 0 s.n),(1,sB sm),(4,.k (.slice none 0 0)),(5,sH 1 0 i),(6,sI t)] [some (.raw [.row s.n s.f]),some (.own 41 i (tlF add sh sm))]
noncomputable def z4q(add:Nat->Bool)(sh:Nat->Sh)(s:Sh)(sm:Bool):Dyn.Lp:=λid st=>match id with
 |0=>some (.side [Dyn.nilSlot 5 41 (tlF add sh sm) (zml 34 [0] tlK (2 ^ 6) st)=tlSR s add sh sm 0 0] (.leaf .normal (tlSR s add sh sm (min s.n 12:Nat) (min s.n 12))))
 |_=>none
noncomputable def tlVR(s:Sh)(add:Nat->Bool)(sh:Nat->Sh)(sm:Bool)(i:Nat):Dyn.St:=mkS 34 [(0,sH 0 0 s.n),(1,sB sm),(4,.k (.slice none 0 0)),(5,sH 1 0 (i+1)),(6,sI (W (i+1)))] [some (.raw [.row s.n s.f]),some (.own 41 (i+1) (Dyn.appF i (tlF add sh sm) (λ_=>tlF add sh sm i)))]
noncomputable def tlBR(s:Sh)(add:Nat->Bool)(sh:Nat->Sh)(sm:Bool)(i:Nat):Dyn.Out:=
 .ite (bif decide ((i:Int)<s.n)then decide ((i:Int)<12)else false)
  (.side [0<=(i:Int)/\(i:Int)<s.n,0<=(i:Int)/\(i:Int)<s.n,PdS (sh i),zbz (sh i).l,szP 120 i] (.leaf .normal (tlVR s add sh sm i)))
  (.leaf (.exit 0) (tlSR s add sh sm i i))
theorem tl_BR(n:Nat)(add:Nat->Bool)(sh:Nat->Sh)(sm:Bool)(i:Nat):(Dyn.zbm Tryz.prog z8p (z4q add sh (mkL n add sh) sm) 3 (zab (blkD Tryz.f7.body 0)) .leaf (tlSR (mkL n add sh) add sh sm i i)).rl (λ_ s=>zc2 34 [0] [5] tlK 0 s)=tlBR (mkL n add sh) add sh sm i:=by kernel_rfl
theorem yd5(n:Nat)(add:Nat->Bool)(sh:Nat->Sh)(sm:Bool)(hn:n<=1000000000)(hP:∀i,i<n->PdS (sh i))(w0:Dyn.Base Tryz.prog)(st:Dyn.St)(o:Dyn.Out)(h:z4q add sh (mkL n add sh) sm 0 st=some o):Dyn.zai Tryz.prog w0 0 (.loop (zab (blkD Tryz.f7.body 0))) st o:=by
 simp only[z4q,Option.some.injEq]at h
 subst h
 refine zcc λhS=>?_
 refine za9 (fuel:=3) zwu mo (lp:=z4q add sh (mkL n add sh) sm) (by rw[tl_b0];exact zaa (λs o h=>by cases h) zao) (λi (_:Unit)=>tlSR (mkL n add sh) add sh sm i i) (min n 12) (λ_ _=>()) () (λ_ s=>zc2 34 [0] [5] tlK 0 s) (λ_ s=>za0 34 _ _ _ 0 s) (λi _=>tlBR (mkL n add sh) add sh sm i) (λi _=>tl_BR n add sh sm i) (λi hi=>?_) ?_ (hS▸(zdd 34 (by decide) _ _ st).trans (Dyn.Ent.nilSlot (P:=Tryz.prog) (k:=10) (by kernel_rfl) _ _))
 ·have hi':i<n:=by omega
  refine⟨λ_=>⟨⟨⟨by omega,by show(i:Int)<(n:Int);omega⟩,⟨by omega,by show(i:Int)<(n:Int);omega⟩,hP i hi',zau _,zgn (by decide) (by omega),trivial⟩,rfl,?_⟩,λhf=>?_⟩
  ·unfold tlVR
   rw[Wn1 hi' hn]
   exact⟨rfl,Dyn.HeLe.refl _,zjv rfl,trivial⟩
  ·rw[Bool.eq_false_iff]at hf
   exact absurd (zkz.2 ⟨show(i:Int)<(n:Int)by omega,by omega⟩) hf
 ·refine⟨λht=>?_,λ_=>⟨rfl,Dyn.Fits.refl _⟩⟩
  have ht:=zkz.1 ht
  have h1:((min n 12:Nat):Int)<(n:Int):=ht.1
  have h2:((min n 12:Nat):Int)<12:=ht.2
  omega
theorem tl_OR(add:Nat->Bool)(sh:Nat->Sh)(s:Sh)(sm:Bool):(Dyn.rfun Tryz.prog z8p (z4q add sh s sm) 3 Tryz.f7 [dvL s,dvB sm]).ro Tryz.prog Tryz.f7.results=.side [tlSR s add sh sm 0 0=tlSR s add sh sm 0 0] (.leaf (.val (.one (.row (min s.n 12) (tlF add sh sm))))):=by kernel_rfl
theorem yli(n:Nat)(add:Nat->Bool)(sh:Nat->Sh)(sm:Bool)(hn:n<=1000000000)(hP:∀i,i<n->PdS (sh i)):Dyn.zey Tryz.prog 7 [dvL (mkL n add sh),dvB sm] (.val (.one (.row (min n 12) (tlF add sh sm)))):=
 Dyn.zh9 (lp:=z4q add sh (mkL n add sh) sm) (fuel:=3) zwu mo Tryz.func7 (by kernel_rfl) (c:=zbx Tryz.f7.body) (by kernel_rfl)
  (λw0=>by rw[z7p];exact zaa (yd5 n add sh sm hn hP w0) (zaa (λs o h=>by cases h) zao))
  (by kernel_rfl) (tl_OR add sh _ sm) ⟨⟨rfl,trivial⟩,rfl,λ_ _=>rfl⟩
theorem z4s:∀s:Shp,ShB s->∀sm,Dyn.zey Tryz.prog 7 [dvL (toSh s),dvB sm] (.val (dvL (toSh (z8l s sm)))):=by
 intro s h sm
 cases s with
 |nil=>exact h.elim
 |mk k a b c r l n add sub=>
  have q:=yli n add (λi=>toSh (sub i)) sm h.2.1 λi hi=>zl0 (h.2.2 i hi)
  unfold tlF at q
  simp only[zun]at q
  exact q
theorem zzr(x:Sh)(h:PdS x)(sm:Bool):Dyn.zey Tryz.prog 7 [dvL x,dvB sm] (.val (dvL (toSh (z8l (ofSh x) sm)))):=zjr (args:=[dvL (toSh (ofSh x)),dvB sm]) ⟨SLe.dvL h.2,Dyn.DVLe.refl _,trivial⟩ (z4s _ h.1 sm)
open Classical in
def PL(s:Shp):Prop:=∃(n:Nat) (add:Nat->Bool) (sub:Nat->Shp),s=zeq n add sub/\n<=100000/\∀i,i<n->ShB (sub i)/\cntS (sub i)<=100000000
theorem PL.B{s:Shp}(h:PL s):ShB s:=by
 obtain⟨n,add,sub,rfl,hn,hs⟩:=h
 exact⟨zex,by omega,λi hi=>(hs i hi).1⟩
open Classical in
theorem cP_inj{p q:P2}(h:cP p=cP q):p=q:=by
 unfold cP at h
 simp only[List.cons.injEq,Dyn.DC.p.injEq,and_true]at h
 have h1:p.x=q.x:=by have:=h.1;cases p;cases q;injection this
 have h2:p.y=q.y:=by have:=h.2;cases p;cases q;injection this
 exact P2.ext' h1 h2
theorem ycy{l l':Ctr}(h:cCtr l=cCtr l'):l=l':=by
 obtain⟨n,m,p⟩:=l
 obtain⟨n',m',p'⟩:=l'
 unfold cCtr at h
 injection h with h1 h2
 dsimp only at h1
 subst h1
 have e:∀i,m i=m' i/\∀k,p i k=p' i k:=λi=>by
  have:=congrFun h2 i
  dsimp only at this
  injection this with q _
  unfold cRow at q
  injection q with q1 q2
  exact⟨q1,λk=>cP_inj (congrFun q2 k)⟩
 have e1:m=m':=funext λi=>(e i).1
 have e2:p=p':=funext λi=>funext λk=>(e i).2 k
 subst e1;subst e2;rfl
theorem zo7{x y:Int}(h:Dyn.DC.p (vi x)=.p (vi y)):x=y:=by
 injection h with h;injection h
theorem yoy{s s':Sh}(h:cS s=cS s'):s=s':=by
 obtain⟨k,⟨ax,ay⟩,⟨bx',by'⟩,⟨cx,cy⟩,r,l,n,f⟩:=s
 obtain⟨k',⟨ax',ay'⟩,⟨bx2,by2⟩,⟨cx',cy'⟩,r',l',n',f'⟩:=s'
 unfold cS at h
 simp only[List.cons.injEq,and_true]at h
 obtain⟨h0,h1,h2,h3,h4,h5,h6,h7,h8,h9⟩:=h
 obtain rfl:=zo7 h0
 obtain rfl:=zo7 h1
 obtain rfl:=zo7 h2
 obtain rfl:=zo7 h3
 obtain rfl:=zo7 h4
 obtain rfl:=zo7 h5
 obtain rfl:=zo7 h6
 obtain rfl:=zo7 h7
 obtain rfl:=ycy h8
 injection h9 with q1 q2
 subst q1;subst q2;rfl
theorem z7n{s t:Shp}(h:toSh s=toSh t):s=t:=by rw[←za7 s,h,za7]
theorem z99{a a':Bool}{s t:Shp}(h:zbv a (toSh s)=zbv a' (toSh t)):a=a'/\s=t:=by
 unfold zbv at h
 injection h with h1 h2
 refine⟨?_,z7n (yoy h2)⟩
 unfold cB at h1
 injection h1 with h1;injection h1
theorem zvq{α:Type}{f g:Nat->α->α}{a:α}:∀n,(∀i,i<n->∀x,f i x=g i x)->zax f a n=zax g a n
 |0,_=>rfl
 |n+1,h=>by
  show f n (zax f a n)=g n (zax g a n)
  rw[zvq n λi hi=>h i (by omega),h n (by omega)]
def allC:List Dyn.DC:=[cB false,cI 1,cI 0,cI 0,cI 0,cI 0,cI 0,cI 0,cI 400000,.row 0 noF,.row 0 noF]
theorem ypc:DLL allC (zbv false (toSh dAll)):=⟨.refl _,.refl _,.refl _,.refl _,.refl _,.refl _,.refl _,.refl _,.refl _,DLe.rowL λi hi=>absurd hi (Nat.not_lt_zero i),DLe.rowL λi hi=>absurd hi (Nat.not_lt_zero i),trivial⟩
theorem z2y{a:Bool}{x:Sh}:zbv a x≠allC:=λh=>by
 have h9:(zbv a x)[9]? = allC[9]?:=by rw[h]
 have e:(some (cCtr x.l):Option Dyn.DC)=some (.row 0 noF):=h9
 simp only[Option.some.injEq]at e
 unfold cCtr at e
 injection e with _ e2
 have:=congrFun e2 0
 unfold noF at this
 cases this
def PxE(c:List Dyn.DC)(a:Bool)(s:Shp):Prop:=c=zbv a (toSh s)\/(c=allC/\a=false/\s=dAll)
theorem PxE.uniq{c:List Dyn.DC}{a a':Bool}{s s':Shp}(h:PxE c a s)(k:PxE c a' s'):a=a'/\s=s':=by
 rcases h with rfl|⟨rfl,rfl,rfl⟩
 ·rcases k with k|⟨k,_,_⟩
  ·exact z99 k
  ·exact absurd k z2y
 ·rcases k with k|⟨_,rfl,rfl⟩
  ·exact absurd k.symm z2y
  ·exact⟨rfl,rfl⟩
theorem PxE.le{c:List Dyn.DC}{a:Bool}{s:Shp}(h:PxE c a s):DLL c (zbv a (toSh s)):=by
 rcases h with rfl|⟨rfl,rfl,rfl⟩
 ·exact DLL.refl _
 ·exact ypc
def PxD(n:Nat)(f:Nat->List Dyn.DC):Prop:=∃(add:Nat->Bool) (sub:Nat->Shp),n<=100000/\(∀i,i<n->ShB (sub i)/\cntS (sub i)<=100000000)/\∀i,i<n->PxE (f i) (add i) (sub i)
open Classical in
noncomputable def lstD(n:Nat)(f:Nat->List Dyn.DC):Shp:=if h:PxD n f then zeq n h.choose h.choose_spec.choose else L0
theorem zxx{n:Nat}{f:Nat->List Dyn.DC}(h:PxD n f):∃add sub,lstD n f=zeq n add sub/\n<=100000/\(∀i,i<n->ShB (sub i)/\cntS (sub i)<=100000000)/\∀i,i<n->PxE (f i) (add i) (sub i):=by
 have e:lstD n f=zeq n h.choose h.choose_spec.choose:=by unfold lstD;rw[dif_pos h]
 exact⟨_,_,e,h.choose_spec.choose_spec⟩
theorem GoodN.congr{n:Nat}{add add':Nat->Bool}{sub sub':Nat->Shp}(h:GoodN (zeq n add sub))(e:∀i,i<n->sub' i=sub i):GoodN (zeq n add' sub'):=by
 refine⟨λi hi h0=>?_,λi hi hh b hb ha q hs hq=>?_⟩
 ·have hi:i<n:=hi
  have h0:(zdf (sub' i)).2=false:=h0
  show ∀b,Fits b->zbf (sub' i) b=0
  rw[e i hi]at h0 ⊢
  exact h.rch i hi h0
 ·have hi:i<n:=hi
  have hh:hbF (sub' i)=false:=hh
  have ha:zo3 (zdf (sub' i)).1 b=true:=ha
  show zbf (sub' i) q=0
  rw[e i hi]at hh ha ⊢
  exact h.near i hi hh b hb ha q hs hq
theorem z0m{n:Nat}{f:Nat->List Dyn.DC}{add:Nat->Bool}{sub:Nat->Shp}(hn:n<=100000)(hs:∀i,i<n->ShB (sub i)/\cntS (sub i)<=100000000)(hf:∀i,i<n->PxE (f i) (add i) (sub i)) :
  PxD n f/\(∀b,zb6 (lstD n f) b=zb6 (zeq n add sub) b)/\(GoodN (zeq n add sub)->GoodN (lstD n f)):=by
 have h:PxD n f:=⟨add,sub,hn,hs,hf⟩
 obtain⟨add',sub',e,_,_,hf'⟩:=zxx h
 have q:∀i,i<n->add' i=add i/\sub' i=sub i:=λi hi=>(hf' i hi).uniq (hf i hi)
 refine⟨h,λb=>?_,λhg=>?_⟩
 ·rw[e]
  exact zvq n λi hi x=>by show zek x (zbf (sub' i) b) (add' i)=zek x (zbf (sub i) b) (add i);rw[(q i hi).1,(q i hi).2]
 ·rw[e];exact hg.congr λi hi=>(q i hi).2
noncomputable def cvR(s:Shp)(v:Vw)(i:Nat):List Dyn.DC:=[cI (cvI s v i).1,cI (cvI s v i).2]
theorem zxu(s:Shp)(b:B4):zj3 (lst s) b=zj3 s b:=rfl
theorem z23(g:Gr)(b:B4):ofG (ze7 g b)=lst (zj3 (ofG g) b):=zu7 _
theorem yai(x:Sh):ofG (zju x)=lst (znh (ofSh x)):=zu7 _
theorem rnQ_ex(d:Nat)(x:Sh)(v:Vw)(most u cx cy:Int)(r:B4):rnQ (exE d) (ze7 (zju x) r) v most u cx cy=exF most d (zj3 (zj3 (znh (ofSh x)) r) (pixB v cx cy)) (pixB v cx cy) u:=by
 unfold rnQ exE
 rw[z23,yb0,z23,yai,zxu,zxu]
theorem rn_ok(d:Nat)(hd:d<=1){x:Sh}(hx:PdS x)(hg:GoodN (ofSh x)){v:Vw}(hv:VwG v)(hk:v.d=(d:Int)){most:Int}(g1:5*(pxN v:Int)<=most)(g2:most<=100000000):RnOk d (exE d) v (zju x) (cvR (ofSh x) v) (usI most (ofSh x) v 0) most:=by
 refine⟨hv,hk,z9z hx,λcx cy hx' hy'=>?_⟩
 have hl:=z92 hv
 have hn:=z2p hv hx' hy'
 have w1:=hv.w1;have w2:=hv.w2;have h1:=hv.h1;have h2:=hv.h2
 obtain⟨_,k⟩:=ex_ok (most:=most) g2 hg hv (Int.le_refl 0) (pxN v) (Nat.le_refl _) (by omega)
 obtain⟨k1,k2,k3⟩:=k _ hn
 obtain⟨e1,e2⟩:=yms hv (y:=cy) hx'
 have er:rwB v (cy:Int)=rowB v (cy:Int):=by unfold rwB rowB;rw[W_id (x:=v.w-1) (by omega) (by omega)]
 have ed:v.d.toNat=d:=by omega
 have e:rnQ (exE d) (ze7 (zju x) (rwB v cy)) v most (usI most (ofSh x) v 0 (cy*v.w.toNat+cx)) cx cy=exI most (ofSh x) v 0 (cy*v.w.toNat+cx):=by
  rw[rnQ_ex,er]
  unfold exI grI pxI
  rw[e1,e2,ed]
 rw[e]
 exact⟨k3,rfl,by unfold cvR;rw[k1,k2]⟩
theorem z9u{n:Nat}{f:Nat->List Dyn.DC}(hx:PdS (obX n f))(hg:GoodN (ofSh (obX n f))){v:Vw}(hv:VwG v){most:Int}(h1:5*(pxN v:Int)<=most)(h2:most<=100000000) :
  Dyn.zlp Tryz.prog 21 [.d (dvL (obX n f)),.d (dvV v),.lp 0 0] 107 [vi most,vi 0] (.tup [.one (.row (pxN v) (cvR (ofSh (obX n f)) v)),dvI 0]):=by
 rcases hv.d with e|e
 ·exact zq8 (k:=0) (U:=usI most (ofSh (obX n f)) v 0) exam0 hx (rn_ok 0 (by decide) hx hg hv e h1 h2)
 ·exact zq8 (k:=1) (U:=usI most (ofSh (obX n f)) v 0) exam1 hx (rn_ok 1 (by decide) hx hg hv e h1 h2)
theorem yis{P:Program}{K:Nat}{u u' v v':Dyn.DV}{l:List Dyn.LA}{t:TypeId}{cs:List Value}{r:Dyn.RV}(h1:DVd u u')(h2:Dyn.DVLe v v')(k:Dyn.zlp P K (.d u'::.d v'::l) t cs r):Dyn.zlp P K (.d u::.d v::l) t cs r:=λw F b us hF hn hd hden=>k w F b us hF hn hd (by
 cases us with
 |nil=>exact hden
 |cons x us=>
  cases us with
  |nil=>exact⟨DVd.den h1 hden.1,hden.2⟩
  |cons y us=>exact⟨DVd.den h1 hden.1,Dyn.zjp h2 hden.2.1,hden.2.2⟩)
noncomputable def enRn:List Dyn.LA->TypeId->List Value->Option (Dyn.RV×List Prop)
 |[.d (.one (.row n f)),.d u,.lp 0 0],t,[.int .i64 most,.int .i64 a]=>match aV u,Nat.beq t 107 with
  |some v,true=>some (.tup [.one (.row (pxN v) (cvR (lstD n f) v)),dvI 0],[PxD n f,GoodN (lstD n f),VwG v,a=0/\5*(pxN v:Int)<=most/\most<=100000000])
  |_,_=>none
 |_,_,_=>none
theorem yb6:Dyn.zlk Tryz.prog (21,enRn):=λaz t cs r ps h hp=>by
 dsimp only at h
 unfold enRn at h
 split at h
 ·rename_i n f u most a
  split at h
  ·rename_i v hv ht
   have e1:=Nat.eq_of_beq_eq_true ht
   subst e1
   simp only[Option.some.injEq,Prod.mk.injEq]at h
   obtain⟨rfl,rfl⟩:=h
   obtain⟨h1,h2,h3,⟨rfl,h4,h5⟩,_⟩:=hp
   obtain⟨add,sub,e,hn,hs,hf⟩:=zxx h1
   have eo:ofSh (obX n λi=>zbv (add i) (toSh (sub i)))=zeq n add sub:=za7 (zeq n add sub)
   have hB:ShB (zeq n add sub):=⟨zex,by omega,λi hi=>(hs i hi).1⟩
   have k:=z9u (n:=n) (f:=λi=>zbv (add i) (toSh (sub i))) (zl0 hB) (by rw[eo,←e];exact h2) h3 h4 h5
   rw[eo,←e]at k
   exact yis (u':=dvL (obX n λi=>zbv (add i) (toSh (sub i)))) (show DLe _ _ from DLe.rowL λi hi=>(hf i hi).le) (ydf hv) k
  ·cases h
 ·cases h
noncomputable def yjv:Dyn.Tabs:=Dyn.gvT (Dyn.nwT (Dyn.tabs tbF [] (λK=>Nat.beq K 21||Nat.beq K 20) dtyG) nwM) [(21,enRn)]
theorem z80:Dyn.zal Tryz.prog yjv:=Dyn.gvT_ok (Dyn.nwT_ok (Dyn.zb0 zcy (λ_ h=>by cases h)) ykb) (List.forall_mem_cons.2 ⟨yb6,λ_ h=>by cases h⟩)
noncomputable def coO(n:Nat)(f:Nat->List Dyn.DC)(v:Vw):Dyn.RO:=
 .side [PxD n f,GoodN (lstD n f),VwG v,(0:Int)=0/\5*(pxN v:Int)<=capM 1000000/\capM 1000000<=100000000] (.leaf (.tup [.one (.row (pxN v) (cvR (lstD n f) v)),dvB ((pxN v:Int)==W (v.w*v.h))]))
theorem co_O(n:Nat)(f:Nat->List Dyn.DC)(v:Vw):(Dyn.dfun Tryz.prog yjv Dyn.noLp 8 Tryz.f12 [.one (.row n f),dvV v]).ro Tryz.prog Tryz.f12.results=coO n f v:=by kernel_rfl
theorem pxN_wh{v:Vw}(h:VwG v):((pxN v:Int)==W (v.w*v.h))=true:=by
 have w1:=h.w1;have w2:=h.w2;have h1:=h.h1;have h2:=h.h2
 obtain⟨m1,m2⟩:=zmf (a:=v.w) (b:=v.h) (n:=8) (by omega) w2 (by omega)
 rw[W_id (x:=v.w*v.h) (by omega) (by omega)]
 unfold pxN
 rw[Int.natCast_mul,Int.toNat_of_nonneg (show 0<=v.h by omega),Int.toNat_of_nonneg (show 0<=v.w by omega),Int.mul_comm]
 simp
theorem yci{n:Nat}{f:Nat->List Dyn.DC}(h1:PxD n f)(h2:GoodN (lstD n f)){v:Vw}(hv:VwG v):Dyn.zav Tryz.prog 12 [.one (.row n f),dvV v] (.tup [.one (.row (pxN v) (cvR (lstD n f) v)),dvB true]):=
 Dyn.zbs (lp:=Dyn.noLp) (fuel:=8) z80 mo Tryz.func12 (by kernel_rfl) (c:=zbx Tryz.f12.body) (by kernel_rfl) (λw0=>Dyn.zcl _ w0) (by kernel_rfl) (co_O n f v) ⟨⟨h1,h2,hv,⟨rfl,by have:=z92 hv;rw[show capM 1000000=1000000 from ykt (by decide) (by decide)];omega,by decide⟩,trivial⟩,by rw[pxN_wh hv];exact zby rfl⟩
noncomputable def enCo:List Dyn.DV->Option (Dyn.RV×List Prop)
 |[.one (.row n f),u]=>match aV u with
  |some v=>some (.tup [.one (.row (pxN v) (cvR (lstD n f) v)),dvB true],[PxD n f,GoodN (lstD n f),VwG v])
  |none=>none
 |_=>none
theorem yoc:Dyn.zbu Tryz.prog (12,enCo):=λargs r ps h hp=>by
 dsimp only at h
 unfold enCo at h
 split at h
 ·split at h
  ·rename_i u n f v hv
   simp only[Option.some.injEq,Prod.mk.injEq]at h
   obtain⟨rfl,rfl⟩:=h
   exact zc5 (args:=[.one (.row _ _),dvV v]) ⟨Dyn.DVLe.refl _,ydf hv,trivial⟩ (yci hp.1 hp.2.1 hp.2.2.1)
  ·cases h
 ·cases h
def cvF(a b:Nat->Int)(i:Nat):List Dyn.DC:=[cI (a i),cI (b i)]
def yjt:Dyn.Tabs:=Dyn.tabs tbF [] noD (λ_=>true)
theorem z8s:Dyn.zal Tryz.prog yjt:=Dyn.zb0 zcy (λ_ h=>by cases h)
theorem bandQ(x:Int)(m:Nat)(hm:m<2 ^ 62):0<=band x (m:Int)/\band x (m:Int)<=m:=by
 have h:(BitVec.ofInt 64 x &&& BitVec.ofInt 64 (m:Int)).toNat<=m:=by
  rw[BitVec.toNat_and]
  refine Nat.le_trans Nat.and_le_right ?_
  simp only[BitVec.toNat_ofInt]
  omega
 unfold band
 rw[W_id (by omega) (by omega)]
 omega
def sh2(q:Int):Int:=W (1*2 ^ min (IntKind.u64.wrap q).toNat IntKind.i64.bits)
def tmW(v:Vw):Vw:=⟨v.x.tmod 30,v.y.tmod 30,W (sh2 (band v.d 3)*W (band v.p 3+1)),W (band v.w 7+1),W (band v.h 7+1),band v.d 3⟩
def tmA(v:Vw):Vw:=⟨v.x.tmod 300000000,v.y.tmod 300000000,W (sh2 (band v.d 3)*W (W ((IntKind.u64.wrap v.p).tmod 1000000)+1)),W (band v.w 7+1),W (band v.h 7+1),band v.d 3⟩
theorem z4b(x:Int):0<=band x 3/\band x 3<=3:=bandQ x 3 (by decide)
theorem ykw(x:Int):0<=band x 7/\band x 7<=7:=bandQ x 7 (by decide)
def tvO(v:Vw)(q:Bool):Dyn.RO:=.side [0<=IntKind.u64.wrap (band v.d 3)] (.ite q (.leaf (.val (dvV (tmW v)))) (.leaf (.val (dvV (tmA v)))))
theorem tv_O(v:Vw)(q:Bool):(Dyn.dfun Tryz.prog yjt Dyn.noLp 8 Tryz.f8 [dvV v,dvB q]).ro Tryz.prog Tryz.f8.results=tvO v q:=by kernel_rfl
theorem U_band(x:Int):IntKind.u64.wrap (band x 3)=band x 3:=by
 have:=z4b x
 rw[IntKind.wrap_u64];omega
theorem yff(v:Vw):Dyn.zav Tryz.prog 8 [dvV v,dvB true] (.val (dvV (tmW v))):=
 Dyn.zbs (lp:=Dyn.noLp) (fuel:=8) z8s mo Tryz.func8 (by kernel_rfl) (c:=zbx Tryz.f8.body) (by kernel_rfl) (λw0=>Dyn.zcl _ w0) (by kernel_rfl) (tv_O v true) ⟨⟨by rw[U_band];exact(z4b v.d).1,trivial⟩,λ_=>zby rfl,λh=>by cases h⟩
def enTv:List Dyn.DV->Option (Dyn.RV×List Prop)
 |[a,.one (.p (.bool q))]=>match aV a with
  |some v=>some (.val (dvV (tmW v)),[q=true])
  |none=>none
 |_=>none
theorem yn7:Dyn.zbu Tryz.prog (8,enTv):=λargs r ps h hp=>by
 dsimp only at h
 unfold enTv at h
 split at h
 ·split at h
  ·rename_i v hv
   simp only[Option.some.injEq,Prod.mk.injEq]at h
   obtain⟨rfl,rfl⟩:=h
   obtain⟨rfl,_⟩:=hp
   exact zc5 (args:=[dvV v,dvB true]) ⟨ydf hv,Dyn.DVLe.refl _,trivial⟩ (yff v)
  ·cases h
 ·cases h
theorem band4(x:Int):band x 3=0\/band x 3=1\/band x 3=2\/band x 3=3:=by
 have:=z4b x
 omega
theorem yik{x:Int}(h:x=0\/x=1\/x=2\/x=3):band x 1=x%2:=by
 rcases h with rfl|rfl|rfl|rfl<;>decide +kernel
theorem tmodQ(x:Int){n:Int}(hn:0<n) : -n<x.tmod n/\x.tmod n<n:=by
 have:=Int.tmod_lt_of_pos x hn
 have:=Int.lt_tmod_of_pos x hn
 omega
theorem yd4(v:Vw){h:Int}(hh:h=(tmW v).h\/h=(tmW v).w):VwG ⟨(tmW v).x,(tmW v).y,(tmW v).p,(tmW v).w,h,band (tmW v).d 1⟩/\(-29<=(tmW v).x/\(tmW v).x<=29)/\(-29<=(tmW v).y/\(tmW v).y<=29)/\(tmW v).p<=32:=by
 have bd:=band4 v.d
 have bp:=z4b v.p
 have bw:=ykw v.w
 have bh:=ykw v.h
 have tx:=tmodQ v.x (n:=30) (by decide)
 have ty:=tmodQ v.y (n:=30) (by decide)
 have e1:W (band v.p 3+1)=band v.p 3+1:=W_id (by omega) (by omega)
 have e2:W (band v.w 7+1)=band v.w 7+1:=W_id (by omega) (by omega)
 have e3:W (band v.h 7+1)=band v.h 7+1:=W_id (by omega) (by omega)
 have e4:band (band v.d 3) 1=band v.d 3%2:=yik bd
 have hh':1<=h/\h<=8:=by
  rcases hh with rfl|rfl
  ·show 1<=W (band v.h 7+1)/\W (band v.h 7+1)<=8;omega
  ·show 1<=W (band v.w 7+1)/\W (band v.w 7+1)<=8;omega
 have ep:∃k,(k=1\/k=2\/k=4\/k=8)/\(band v.d 3%2=1->k%2=0)/\W (sh2 (band v.d 3)*W (band v.p 3+1))=k*(band v.p 3+1):=by
  rw[e1]
  rcases bd with e|e|e|e<;>rw[e]
  ·exact⟨1,.inl rfl,by omega,by rw[show sh2 0=1 by decide];exact W_id (by omega) (by omega)⟩
  ·exact⟨2,.inr (.inl rfl),by omega,by rw[show sh2 1=2 by decide];exact W_id (by omega) (by omega)⟩
  ·exact⟨4,.inr (.inr (.inl rfl)),by omega,by rw[show sh2 2=4 by decide];exact W_id (by omega) (by omega)⟩
  ·exact⟨8,.inr (.inr (.inr rfl)),by omega,by rw[show sh2 3=8 by decide];exact W_id (by omega) (by omega)⟩
 obtain⟨k,hk,k2,ep⟩:=ep
 have pk:(1<=(tmW v).p/\(tmW v).p<=32)/\(band v.d 3%2=1->(tmW v).p%2=0):=by
  show(1<=W (sh2 (band v.d 3)*W (band v.p 3+1))/\W (sh2 (band v.d 3)*W (band v.p 3+1))<=32)/\(band v.d 3%2=1->W (sh2 (band v.d 3)*W (band v.p 3+1))%2=0)
  rw[ep]
  rcases hk with rfl|rfl|rfl|rfl<;>omega
 obtain⟨⟨p1,p2⟩,p3⟩:=pk
 have w':1<=(tmW v).w/\(tmW v).w<=8:=by show 1<=W (band v.w 7+1)/\W (band v.w 7+1)<=8;omega
 have x' : -29<=(tmW v).x/\(tmW v).x<=29:=by show -29<=v.x.tmod 30/\v.x.tmod 30<=29;omega
 have y' : -29<=(tmW v).y/\(tmW v).y<=29:=by show -29<=v.y.tmod 30/\v.y.tmod 30<=29;omega
 have d':band (tmW v).d 1=band v.d 3%2:=e4
 exact⟨⟨by dsimp only;omega,p1,by dsimp only;omega,λe=>p3 (by dsimp only at e;omega),w'.1,w'.2,hh'.1,hh'.2,by dsimp only;omega,by dsimp only;omega,by dsimp only;omega,by dsimp only;omega⟩,x',y',p2⟩
end Go.Proofs.YtmekpbopoknigaaGreatDoor

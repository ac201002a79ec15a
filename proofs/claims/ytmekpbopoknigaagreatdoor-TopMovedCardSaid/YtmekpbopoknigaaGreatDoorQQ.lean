import Derived.Test.YtmekpbopoknigaaGreatDoorQP
import Derived.Test.YtmekpbopoknigaaGreatDoorQL
import Derived.Test.YtmekpbopoknigaaGreatDoorQM
import Derived.LaidEql
import Derived.MapKept
import Derived.Deep.LoopGhost
import Derived.Deep.QuietTactic
import Derived.BigQuiet
import Derived.StillTailTactics
import Derived.Maps.Own
import Derived.Carry
import Derived.Test.YtmekpbopoknigaaGreatDoorQO
import Derived.Deep.RegionWith
import Derived.Laws.CopyOwn
import Derived.Maps.AppendAt
import Derived.Laws.Cover3
import Derived.Test.YtmekpbopoknigaaGreatDoorQN
namespace Go.Proofs.YtmekpbopoknigaaGreatDoor
open Go Go.RowKit Sym
set_option maxRecDepth 100000
noncomputable def tdRn:List Dyn.zb2:=[(35,enVo),(37,enVp),(36,en1D (qAnd qL PdS) λx=>.val (dvG (zju x))),(38,en2D (qAnd qG PdG) qX λx b=>.val (dvG (ze7 x b)))]
def drRn(K:Nat):Bool:=Nat.beq K 38||Nat.beq K 36||Nat.beq K 39
def yob(k:Int)(F:ExF):List Dyn.LA->Dyn.Lent->Option (Value×List (List Value)×List Prop)
 |[.d g,.d u,.d (.one (.p (.int .i64 d))),.lp 0 0],[(t,[.int .i64 most,.int .i64 a])]=>match qG g,aX u,Nat.beq t 107 with
  |some (x,_),some b,true=>some (exV (F x b most a).lo (F x b most a).hi (F x b most a).e,mtO most (F x b most a).a,[PdG x,d=k])
  |_,_,_=>none
 |_,_=>none
theorem yhs{k:Int}{F:ExF}(ih:zl1 k F):Dyn.zjo Tryz.prog (39,yob k F):=λaz lent u out ps h hp=>by
 dsimp only at h
 unfold yob at h
 split at h
 ·rename_i g u' d t most a
  split at h
  ·rename_i x ps' b hg hb ht
   have e1:=Nat.eq_of_beq_eq_true ht
   subst e1
   simp only[Option.some.injEq,Prod.mk.injEq]at h
   obtain⟨rfl,rfl,rfl⟩:=h
   obtain⟨hx,rfl,_⟩:=hp
   have q:=z91 _ _ _ hg (by
    unfold qG at hg;split at hg
    ·simp only[Option.some.injEq,Prod.mk.injEq]at hg
     rw[←hg.2];trivial
    ·cases hg)
   exact zzf q.1 (yde hb) (ih x hx b most a)
  ·cases h
 ·cases h
noncomputable def yfj(k:Int)(F:ExF):Dyn.Tabs:=Dyn.z4v tbF tdRn [(39,yob k F)] drRn dtyG false
theorem zuo{k:Int}{F:ExF}(ih:zl1 k F):Dyn.zal Tryz.prog (yfj k F):=
 Dyn.zna zcy (List.forall_mem_cons.2 ⟨yb5,List.forall_mem_cons.2 ⟨yn6,List.forall_mem_cons.2 ⟨zfe (zbl z5a) λx h=>z57 x h.1,List.forall_mem_cons.2 ⟨zgc (zbl z91) zuz λx b h _=>zr5 x h.1 b,λ_ h=>by cases h⟩⟩⟩⟩) (List.forall_mem_cons.2 ⟨yhs ih,λ_ h=>by cases h⟩)
def mtH(most u:Int):Option Dyn.HE:=some (.cells 107 [vi most,vi u])
def vwH(v:Vw):Option Dyn.HE:=some (.cells 24 [vi v.x,vi v.y,vi v.p,vi v.w,vi v.h,vi v.d])
def grH(b:Nat)(g:Gr):Option Dyn.HE:=some (.cells 111 [.slice (some ⟨b,0,some 0⟩) g.n 0,.slice (some ⟨b,1,some 0⟩) g.m 0])
def grD(g:Gr):Option Dyn.HE:=some (.deep [.row g.n g.f,.row g.m g.h])
def rnS(v:Vw)(g:Gr)(c:Nat)(R:Nat->List Dyn.DC)(most u y:Int):Dyn.St:=mkF 96 [(2,sL 0),(4,sL 1),(7,.k (vi 0)),(8,sL 2),(9,sH 3 0 c),(33,sI v.h),(34,sI y)] [mtH most u,vwH v,grH 4 g,some (.own 47 c R),grD g] [(2,0)]
def rnT(v:Vw)(g r:Gr)(c:Nat)(R:Nat->List Dyn.DC)(most u y x:Int):Dyn.St:=mkF 96 [(2,sL 0),(4,sL 1),(7,.k (vi 0)),(8,sL 2),(9,sH 3 0 c),(10,sI y),(15,sL 4),(33,sI v.h),(34,sI y),(64,sI v.w),(65,sI x)] [mtH most u,vwH v,grH 5 g,some (.own 47 c R),grH 6 r,grD g,grD r] [(2,0)]
def rnK:List Nat:=[2,4,7,8,9,33,34]
def rnL:List Nat:=[2,4,7,8,9,10,15,33,34,64,65]
def rnR:Dyn.St:=mkF 96 [] [] [(2,0)]
noncomputable def rnQ(F:ExF)(r:Gr)(v:Vw)(most u x y:Int):ExR:=F (ze7 r (pixB v x y)) (pixB v x y) most u
noncomputable def rnBi(k:Int)(F:ExF)(v:Vw)(g r:Gr)(c:Nat)(R:Nat->List Dyn.DC)(most u y x:Int):Dyn.Out:=
 .ite (decide (x<v.w)) (.side [VwG v,0<=x/\x<v.w,0<=y/\y<v.h] (.side [PdG r,PdG (ze7 r (pixB v x y)),v.d=k] (.ite ((rnQ F r v most u x y).e != 0) (.leaf .ret rnR)
  (.side [szP 16 c] (.leaf .normal (rnT v g r (c+1) (Dyn.appF c R λ_=>[cI (rnQ F r v most u x y).lo,cI (rnQ F r v most u x y).hi]) most (rnQ F r v most u x y).a y (W (x+1)))))))) (.leaf (.exit 2) (rnT v g r c R most u y x))
theorem rn_Bi(k:Int)(F:ExF)(v:Vw)(g r:Gr)(c:Nat)(R:Nat->List Dyn.DC)(most u y x:Int):(Dyn.zbm Tryz.prog (yfj k F) Dyn.noLp 3 (zab (blkD Tryz.f21.body 2)) .leaf (rnT v g r c R most u y x)).rl (zfc 96 [0] [4,8,9,15] [(2,0),(4,0)] rnL [] [])=rnBi k F v g r c R most u y x:=by kernel_rfl
def rwB(v:Vw)(y:Int):B4:=⟨(pixB v 0 y).x0,(pixB v 0 y).y0,(pixB v (W (v.w-1)) y).x1,(pixB v (W (v.w-1)) y).y1⟩
def yOf(st:Dyn.St):Nat:=(intD (st.slots.getD 34 .junk)).toNat
noncomputable def rnE(v:Vw)(g:Gr)(R:Nat->List Dyn.DC)(U:Nat->Int)(most:Int)(w y:Nat)(x:Nat):Dyn.St:=rnT v g (ze7 g (rwB v y)) (y*w+x) R most (U (y*w+x)) y x
def rnZ:Nat->List Dyn.DC:=λ_=>[cI 0,cI 0]
noncomputable def rnLp(v:Vw)(g:Gr)(R:Nat->List Dyn.DC)(U:Nat->Int)(most:Int)(w h:Nat):Dyn.Lp:=λid st=>match id with
 |0=>some (.side [zvi 96 [0] [4,8,9] [(7,0)] rnK (2 ^ 34) st=rnS v g 0 rnZ most (U 0) 0] (.leaf .normal (rnS v g (h*w) R most (U (h*w)) h)))
 |2=>some (.side [zvi 96 [0] [4,8,9,15] [(2,0),(37,0)] rnL (2 ^ 65) st=rnE v g R U most w (yOf st) 0,yOf st<h] (.leaf .normal (rnE v g R U most w (yOf st) w)))
 |_=>none
noncomputable def rnBo(v:Vw)(g:Gr)(R:Nat->List Dyn.DC)(U:Nat->Int)(most:Int)(w h y:Nat)(c:Nat)(u:Int):Dyn.Out:=
 .ite (decide ((y:Int)<v.h)) (.side [VwG v,(0:Int)<=0/\0<v.w,0<=(y:Int)/\(y:Int)<v.h] (.side [VwG v,0<=W (v.w-1)/\W (v.w-1)<v.w,0<=(y:Int)/\(y:Int)<v.h] (.side [PdG g] (.side [rnT v g (ze7 g (rwB v y)) c R most u y 0=rnE v g R U most w y 0,y<h]
  (.leaf .normal (rnS v g (y*w+w) R most (U (y*w+w)) (W ((y:Int)+1)))))))) (.leaf (.exit 0) (rnS v g c R most u y))
theorem rn_Bo(k:Int)(F:ExF)(v:Vw)(g:Gr)(R:Nat->List Dyn.DC)(U:Nat->Int)(most:Int)(w h y c:Nat)(u:Int):(Dyn.zbm Tryz.prog (yfj k F) (rnLp v g R U most w h) 3 (zab (blkD Tryz.f21.body 0)) .leaf (rnS v g c R most u y)).rl (zfc 96 [0] [4,8,9] [(2,0)] rnK [] [])=rnBo v g R U most w h y c u:=by kernel_rfl
noncomputable def rnO(x:Sh)(v:Vw)(R:Nat->List Dyn.DC)(U:Nat->Int)(most:Int)(w h:Nat):Dyn.RO:=
 .side [VwG v] (.ite (!true) (.leaf (.tup [.one (.row 0 λ_=>[]),dvI 1])) (.side [PdS x] (.side [(0:Int)<=0/\0<=W (v.w*v.h)/\W (v.w*v.h)<=9223372036854775807/\((16:Nat):Int)*W (v.w*v.h)<=281474976710656]
  (.side [rnS v (zju x) 0 rnZ most (U 0) 0=rnS v (zju x) 0 rnZ most (U 0) 0] (.leaf (.tup [.one (.row (h*w) R),dvI 0]))))))
theorem rn_O(k:Int)(F:ExF)(n:Nat)(f:Nat->List Dyn.DC)(v:Vw)(R:Nat->List Dyn.DC)(U:Nat->Int)(most:Int)(w h:Nat):(Dyn.zsd Tryz.prog (yfj k F) (rnLp v (zju (obX n f)) R U most w h) 3 Tryz.f21 (mtL most (U 0)) [.d (dvL (obX n f)),.d (dvV v),.lp 0 0]).ro Tryz.prog Tryz.f21.results=rnO (obX n f) v R U most w h:=by kernel_rfl
theorem z9s:zam (zbx Tryz.f21.body)=[(0,.loop (zab (blkD Tryz.f21.body 0))),(1,blkD Tryz.f21.body 1),(2,.loop (zab (blkD Tryz.f21.body 2))),(3,blkD Tryz.f21.body 3)]:=by kernel_rfl
theorem rn_b0:zam (zab (blkD Tryz.f21.body 0))=[(1,blkD Tryz.f21.body 1),(2,.loop (zab (blkD Tryz.f21.body 2))),(3,blkD Tryz.f21.body 3)]:=by kernel_rfl
structure RnOk(k:Int)(F:ExF)(v:Vw)(g:Gr)(R:Nat->List Dyn.DC)(U:Nat->Int)(most:Int):Prop where
 vw:VwG v
 dk:v.d=k
 gr:PdG g
 st:∀x y:Nat,x<v.w.toNat->y<v.h.toNat->(rnQ F (ze7 g (rwB v y)) v most (U (y*v.w.toNat+x)) x y).e=0/\(rnQ F (ze7 g (rwB v y)) v most (U (y*v.w.toNat+x)) x y).a=U (y*v.w.toNat+x+1)/\
  R (y*v.w.toNat+x)=[cI (rnQ F (ze7 g (rwB v y)) v most (U (y*v.w.toNat+x)) x y).lo,cI (rnQ F (ze7 g (rwB v y)) v most (U (y*v.w.toNat+x)) x y).hi]
theorem yf9{k:Int}{F:ExF}(ih:zl1 k F){v:Vw}{g:Gr}{R:Nat->List Dyn.DC}{U:Nat->Int}{most:Int}(h:RnOk k F v g R U most){y:Nat}(hy:y<v.h.toNat)(w0:Dyn.Base Tryz.prog){s0:Dyn.St}(h0:Dyn.Ent w0 s0 (rnE v g R U most v.w.toNat y 0)) :
  Dyn.zai Tryz.prog w0 2 (.loop (zab (blkD Tryz.f21.body 2))) s0 (.leaf .normal (rnE v g R U most v.w.toNat y v.w.toNat)):=by
 have hv:=h.vw
 have w1:=hv.w1;have w2:=hv.w2;have h1:=hv.h1;have h2:=hv.h2
 refine za9 (fuel:=3) (zuo ih) mo (lp:=Dyn.noLp) (Dyn.zcl _ w0) (λx (_:Unit)=>rnE v g R U most v.w.toNat y x) v.w.toNat (λ_ _=>()) () (zfc 96 [0] [4,8,9,15] [(2,0),(4,0)] rnL [] []) (zed 96 _ _ _ _ _ _) (λx _=>rnBi k F v g (ze7 g (rwB v y)) (y*v.w.toNat+x) R most (U (y*v.w.toNat+x)) y x) (λx _=>rn_Bi k F v g (ze7 g (rwB v y)) (y*v.w.toNat+x) R most (U (y*v.w.toNat+x)) y x) (λx hx=>?_) ?_ h0
 ·obtain⟨q1,q2,q3⟩:=h.st x y hx hy
  have hn:=z2p hv hx hy
  have hl:=z92 hv
  refine⟨λ_=>⟨⟨hv,⟨by omega,by omega⟩,⟨by omega,by omega⟩,trivial⟩,⟨zqb h.gr _,zqb (zqb h.gr _) _,h.dk,trivial⟩,λhe=>?_,λ_=>⟨⟨zgn (by decide) (by omega),trivial⟩,rfl,?_⟩⟩,λhf=>?_⟩
  ·rw[q1]at he;cases he
  ·show Dyn.Fits (rnT v g (ze7 g (rwB v y)) (y*v.w.toNat+x+1) (Dyn.appF (y*v.w.toNat+x) R λ_=>[cI (rnQ F (ze7 g (rwB v y)) v most (U (y*v.w.toNat+x)) x y).lo,cI (rnQ F (ze7 g (rwB v y)) v most (U (y*v.w.toNat+x)) x y).hi]) most (rnQ F (ze7 g (rwB v y)) v most (U (y*v.w.toNat+x)) x y).a y (W ((x:Int)+1))) (rnT v g (ze7 g (rwB v y)) (y*v.w.toNat+(x+1)) R most (U (y*v.w.toNat+(x+1))) y ((x+1:Nat):Int))
   rw[q2,Wn1 hx (by omega)]
   exact⟨rfl,Dyn.HeLe.refl _,Dyn.HeLe.refl _,Dyn.HeLe.refl _,zjv q3.symm,Dyn.HeLe.refl _,Dyn.HeLe.refl _,Dyn.HeLe.refl _,trivial⟩
  ·rw[decide_eq_false_iff_not]at hf
   exact absurd (show(x:Int)<v.w by omega) hf
 ·refine⟨λht=>?_,λ_=>⟨rfl,Dyn.Fits.refl _⟩⟩
  rw[decide_eq_true_eq]at ht
  omega
theorem yj3{k:Int}{F:ExF}(ih:zl1 k F){v:Vw}{g:Gr}{R:Nat->List Dyn.DC}{U:Nat->Int}{most:Int}(h:RnOk k F v g R U most)(w0:Dyn.Base Tryz.prog)(s:Dyn.St)(o:Dyn.Out)(hs:rnLp v g R U most v.w.toNat v.h.toNat 2 s=some o):Dyn.zai Tryz.prog w0 2 (.loop (zab (blkD Tryz.f21.body 2))) s o:=by
 simp only[rnLp,Option.some.injEq]at hs
 subst hs
 exact zdv λhS hy=>yf9 ih h hy w0 (hS▸zf2 96 _ _ _ _ _ s)
theorem rn_lp0{k:Int}{F:ExF}(ih:zl1 k F){v:Vw}{g:Gr}{R:Nat->List Dyn.DC}{U:Nat->Int}{most:Int}(h:RnOk k F v g R U most)(w0:Dyn.Base Tryz.prog)(s:Dyn.St)(o:Dyn.Out)(hs:rnLp v g R U most v.w.toNat v.h.toNat 0 s=some o):Dyn.zai Tryz.prog w0 0 (.loop (zab (blkD Tryz.f21.body 0))) s o:=by
 simp only[rnLp,Option.some.injEq]at hs
 subst hs
 refine zcc λhS=>?_
 have hv:=h.vw
 have w1:=hv.w1;have w2:=hv.w2;have h1:=hv.h1;have h2:=hv.h2
 refine za9 (fuel:=3) (zuo ih) mo (lp:=rnLp v g R U most v.w.toNat v.h.toNat) (by rw[rn_b0];exact zaa (λs o h=>by cases h) (zaa (yj3 ih h w0) (zaa (λs o h=>by cases h) zao))) (λy (_:Unit)=>rnS v g (y*v.w.toNat) R most (U (y*v.w.toNat)) y) v.h.toNat (λ_ _=>()) () (zfc 96 [0] [4,8,9] [(2,0)] rnK [] []) (zed 96 _ _ _ _ _ _) (λy _=>rnBo v g R U most v.w.toNat v.h.toNat y (y*v.w.toNat) (U (y*v.w.toNat))) (λy _=>rn_Bo k F v g R U most v.w.toNat v.h.toNat y (y*v.w.toNat) (U (y*v.w.toNat))) (λy hy=>?_) ?_
  (Dyn.Ent.trans (s2:=rnS v g 0 rnZ most (U 0) 0) (hS▸zf2 96 _ _ _ _ _ s) (Dyn.Ent.fits (by rw[Nat.zero_mul];exact⟨rfl,Dyn.HeLe.refl _,Dyn.HeLe.refl _,Dyn.HeLe.refl _,⟨rfl,rfl,λj hj=>absurd hj (Nat.not_lt_zero j)⟩,Dyn.HeLe.refl _,trivial⟩)))
 ·have ew:W (v.w-1)=v.w-1:=W_id (by omega) (by omega)
  refine⟨λ_=>⟨⟨hv,⟨by omega,by omega⟩,⟨by omega,by omega⟩,trivial⟩,⟨hv,⟨by rw[ew];omega,by rw[ew];omega⟩,⟨by omega,by omega⟩,trivial⟩,⟨h.gr,trivial⟩,⟨rfl,hy,trivial⟩,rfl,?_⟩,λhf=>?_⟩
  ·show Dyn.Fits (rnS v g (y*v.w.toNat+v.w.toNat) R most (U (y*v.w.toNat+v.w.toNat)) (W ((y:Int)+1))) (rnS v g ((y+1)*v.w.toNat) R most (U ((y+1)*v.w.toNat)) ((y+1:Nat):Int))
   rw[Wn1 hy (by omega),Nat.succ_mul]
   exact Dyn.Fits.refl _
  ·rw[decide_eq_false_iff_not]at hf
   exact absurd (show(y:Int)<v.h by omega) hf
 ·refine⟨λht=>?_,λ_=>⟨rfl,Dyn.Fits.refl _⟩⟩
  rw[decide_eq_true_eq]at ht
  omega
theorem zq8{k:Int}{F:ExF}(ih:zl1 k F){n:Nat}{f:Nat->List Dyn.DC}(hx:PdS (obX n f)){v:Vw}{R:Nat->List Dyn.DC}{U:Nat->Int}{most:Int}(h:RnOk k F v (zju (obX n f)) R U most) :
  Dyn.zlp Tryz.prog 21 [.d (dvL (obX n f)),.d (dvV v),.lp 0 0] 107 [vi most,vi (U 0)] (.tup [.one (.row (pxN v) R),dvI 0]):=by
 have hv:=h.vw
 have w1:=hv.w1;have w2:=hv.w2;have h1:=hv.h1;have h2:=hv.h2
 obtain⟨m1,m2⟩:=zmf (a:=v.w) (b:=v.h) (n:=8) (by omega) w2 (by omega)
 refine Dyn.zyd (lp:=rnLp v (zju (obX n f)) R U most v.w.toNat v.h.toNat) (fuel:=3) (zuo ih) mo Tryz.func21 (by kernel_rfl) (c:=zbx Tryz.f21.body) (by kernel_rfl)
  (λw0=>by rw[z9s];exact zaa (rn_lp0 ih h w0) (zaa (λs o h=>by cases h) (zaa (yj3 ih h w0) (zaa (λs o h=>by cases h) zao))))
  (by kernel_rfl) (by kernel_rfl) rfl (rn_O k F n f v R U most v.w.toNat v.h.toNat) ?_
 refine⟨⟨hv,trivial⟩,λhh=>(by cases hh),λ_=>⟨⟨hx,trivial⟩,⟨⟨by omega,?_,?_,?_⟩,trivial⟩,⟨rfl,trivial⟩,zby rfl⟩⟩
 all_goals (rw[W_id (x:=v.w*v.h) (by omega) (by omega)];omega)
def dAll:Shp:=.mk 1 ⟨0,0⟩ ⟨0,0⟩ ⟨0,0⟩ 400000 ⟨0,λ_=>0,λ_ _=>⟨0,0⟩⟩ 0 (λ_=>false) (λ_=>.nil)
def sumC(f:Nat->Nat):Nat->Nat
 |0=>0
 |n+1=>sumC f n+f n
theorem zn9{f g:Nat->Nat}:∀{n},(∀i,i<n->f i=g i)->sumC f n=sumC g n
 |0,_=>rfl
 |n+1,h=>by unfold sumC;rw[zn9 λi hi=>h i (by omega),h n (by omega)]
theorem z89{f:Nat->Nat}:∀{n i:Nat},i<n->f i<=sumC f n
 |0,i,h=>absurd h (Nat.not_lt_zero i)
 |n+1,i,h=>by
  unfold sumC
  by_cases e:i=n
  ·subst e;omega
  ·have:=z89 (f:=f) (n:=n) (i:=i) (by omega);omega
def cntS:Shp->Nat
 |.nil=>0
 |.mk _ _ _ _ _ _ n _ sub=>sumC (λi=>1+cntS (sub i)) n
inductive PC(w:World)(F:Nat->Prop):Option Addr->Nat->Nat->Prop where
 |nil (oa:Option Addr):PC w F oa 0 0
 |row (b off n:Nat) (a:Nat->Option Addr) (m q c:Nat->Nat):0<n->F b->(∀i,i<n->w.cell? ⟨b,off+i*11+10,none⟩=some (.slice (a i) (m i) (q i)))->
   (∀i,i<n->PC w F (a i) (m i) (c i))->PC w F (some ⟨b,off,none⟩) n (sumC (λi=>1+c i) n)
theorem PC.mono{w w':World}{F F':Nat->Prop}(h:∀b,F b->F' b/\w'.heap[b]? = w.heap[b]?){oa:Option Addr}{n c:Nat}(k:PC w F oa n c):PC w' F' oa n c:=by
 induction k with
 |nil oa=>exact .nil oa
 |row b off n a m q c hn hF hc _ ih=>exact .row b off n a m q c hn (h b hF).1 (λi hi=>(Dyn.zgm (h b hF).2 _).trans (hc i hi)) ih
theorem PC.det{w:World}{F F':Nat->Prop}{oa:Option Addr}{n c:Nat}(k:PC w F oa n c):∀{c':Nat},PC w F' oa n c'->c=c':=by
 induction k with
 |nil oa=>
  intro c' k'
  cases k' with
  |nil=>rfl
  |row b off n a m q c hn=>exact absurd hn (Nat.lt_irrefl 0)
 |row b off n a m q c hn hF hc _ ih=>
  intro c' k'
  cases k' with
  |nil=>exact absurd hn (Nat.lt_irrefl 0)
  |row _ _ _ a' m' q' d hn' hF' hc' hs=>
   refine zn9 λi hi=>?_
   have e:=(hc i hi).symm.trans (hc' i hi)
   simp only[Option.some.injEq,Value.slice.injEq]at e
   obtain⟨e1,e2,_⟩:=e
   have:=hs i hi
   rw[←e1,←e2]at this
   rw[ih i hi this]
theorem ycc{w:World}{F:Nat->Prop}:∀(s:Shp),ShB s->∀{v:Value},Dyn.DenC w F (.row (toSh s).n (toSh s).f) v->∃oa cap,v=.slice oa (toSh s).n cap/\PC w F oa (toSh s).n (cntS s):=by
 intro s
 induction s with
 |nil=>intro h;exact h.elim
 |mk k a b c r l n add sub ih=>
  intro hB v h
  have h:Dyn.DenC w F (.row n λi=>zbv (add i) (toSh (sub i))) v:=h
  show ∃oa cap,v=.slice oa n cap/\PC w F oa n (sumC (λi=>1+cntS (sub i)) n)
  generalize hf:(λi=>zbv (add i) (toSh (sub i)))=f at h
  cases h with
  |nil f oa cap=>exact⟨oa,cap,rfl,.nil oa⟩
  |row _ _ b off cap size g hk hF hc hd=>
   refine⟨_,cap,rfl,?_⟩
   by_cases hz:n=0
   ·subst hz;exact .nil _
   ·have es:size=11:=by rw[←(hc 0 (by omega)).1,←hf];rfl
    subst es
    have key:∀i,i<n->∃oa cap,g i 10=.slice oa (toSh (sub i)).n cap/\PC w F oa (toSh (sub i)).n (cntS (sub i)):=λi hi=>by
     have:=hd i 10 hi (by decide)
     rw[←hf]at this
     exact ih i (hB.2.2 i hi) this
    have ch:∃(a:Nat->Option Addr) (q:Nat->Nat),∀i,i<n->g i 10=.slice (a i) (toSh (sub i)).n (q i)/\PC w F (a i) (toSh (sub i)).n (cntS (sub i)):=by
     refine⟨λi=>(match g i 10 with|.slice oa _ _=>oa|_=>none),λi=>(match g i 10 with|.slice _ _ q=>q|_=>0),λi hi=>?_⟩
     obtain⟨oa,cap,e,p⟩:=key i hi
     dsimp only
     rw[e];exact⟨rfl,p⟩
    obtain⟨a,q,h⟩:=ch
    exact .row b off n a _ q _ (by omega) hF (λi hi=>by rw[(hc i hi).2 10 (by decide),(h i hi).1]) (λi hi=>(h i hi).2)
abbrev PKey:=Nat×Nat×Nat
def keyV(k:PKey):Value:=.agg #[.pointer (some ⟨k.1,k.2.1,none⟩),.int .i64 (k.2.2:Int)]
def lkP(k:PKey):List (PKey×Int)->Option Int
 |[]=>none
 |x::l=>if x.1=k then some x.2 else lkP k l
def ixP(k:PKey):List (PKey×Int)->Option Nat
 |[]=>none
 |x::l=>if x.1=k then some 0 else(ixP k l).map (· + 1)
def upP(k:PKey)(v:Int):List (PKey×Int)->List (PKey×Int)
 |[]=>[(k,v)]
 |x::l=>if x.1=k then(k,v)::l else x::upP k v l
theorem ya2(k:PKey)(v:Int)(k':PKey):∀l,lkP k' (upP k v l)=if k=k' then some v else lkP k' l
 |[]=>by simp only[upP,lkP]
 |x::l=>by
  unfold upP
  by_cases e:x.1=k
  ·rw[if_pos e]
   simp only[lkP]
   by_cases e':k=k'
   ·rw[if_pos e',if_pos e']
   ·rw[if_neg e',if_neg e',if_neg (λz=>e' (e.symm.trans z))]
  ·rw[if_neg e]
   simp only[lkP]
   by_cases e':x.1=k'
   ·rw[if_pos e',if_pos e',if_neg (λz=>e (e'.trans z.symm))]
   ·rw[if_neg e',if_neg e'];exact ya2 k v k' l
def zh1(w:World)(b:Nat)(l:List (PKey×Int)):Prop:=
 ∃es clock,w.heap[b]? = some (.map es clock)/\es.toList.map (λe=>(e.key,e.val))=l.map (λx=>(keyV x.1,.int .i64 x.2))
structure KeyT(P:Program)(t k e el size:Nat)(f1 f2:Field):Prop where
 m:P.underlying t=some (.map k e)
 s:P.underlying k=some (.struct #[f1,f2])
 p:P.underlying f1.type=some (.pointer el)
 q:∃i,P.underlying f2.type=some (.int i)
 z:zbh P el=some (size+1)
 n1:(f1.name != "_")=true
 n2:(f2.name != "_")=true
 o1:f1.offset=0
 o2:f2.offset=1
 h:P.stoodInHeld k=false
 a1:zei P f1.type=some false
 a2:zei P f2.type=some false
section
variable{P:Program}{t k e el size:Nat}{f1 f2:Field}{w:World}
theorem znq(T:KeyT P t k e el size f1 f2)(x:PKey)(em:Bool):(Instr.checkKey em 10000 k (keyV x)).run P w=.ok () w:=by
 have p1:(part f1.type #[Value.pointer (some ⟨x.1,x.2.1,none⟩),.int .i64 (x.2.2:Int)] f1.offset).run P w=.ok (.pointer (some ⟨x.1,x.2.1,none⟩)) w:=zgj (by unfold zgv;rw[T.a1,T.o1];rfl)
 have p2:(part f2.type #[Value.pointer (some ⟨x.1,x.2.1,none⟩),.int .i64 (x.2.2:Int)] f2.offset).run P w=.ok (.int .i64 (x.2.2:Int)) w:=zgj (by unfold zgv;rw[T.a2,T.o2];rfl)
 have n1':f1.name≠"_":=by simpa using T.n1
 have n2':f2.name≠"_":=by simpa using T.n2
 obtain⟨i,hq⟩:=T.q
 have c1:∀d,(Instr.checkKey em (d+1) f1.type (.pointer (some ⟨x.1,x.2.1,none⟩))).run P w=.ok () w:=λd=>by simp[Instr.checkKey,run_underlying T.p]
 have c2:∀d,(Instr.checkKey em (d+1) f2.type (.int .i64 (x.2.2:Int))).run P w=.ok () w:=λd=>by simp[Instr.checkKey,run_underlying hq]
 show(Instr.checkKey em (9998+2) k _).run P w=_
 unfold keyV
 rw[Instr.checkKey]
 simp[run_underlying T.s,n1',n2',p1,p2,c1 9998,c2 9998]
theorem ya9(T:KeyT P t k e el size f1 f2)(x y:PKey)(hx:Dyn.zar w x.1)(hy:Dyn.zar w y.1):(Op.equal k (keyV x) (keyV y)).run P w=.ok (decide (x=y)) w:=by
 have p1:∀x:PKey,(part f1.type #[Value.pointer (some ⟨x.1,x.2.1,none⟩),.int .i64 (x.2.2:Int)] f1.offset).run P w=.ok (.pointer (some ⟨x.1,x.2.1,none⟩)) w:=λx=>zgj (by unfold zgv;rw[T.a1,T.o1];rfl)
 have p2:∀x:PKey,(part f2.type #[Value.pointer (some ⟨x.1,x.2.1,none⟩),.int .i64 (x.2.2:Int)] f2.offset).run P w=.ok (.int .i64 (x.2.2:Int)) w:=λx=>zgj (by unfold zgv;rw[T.a2,T.o2];rfl)
 have n1':f1.name≠"_":=by simpa using T.n1
 have n2':f2.name≠"_":=by simpa using T.n2
 obtain⟨i,hq⟩:=T.q
 obtain⟨b1,o1,m1⟩:=x
 obtain⟨b2,o2,m2⟩:=y
 obtain⟨c1,t1,hx⟩:=hx
 obtain⟨c2,t2,hy⟩:=hy
 dsimp only at hx hy
 have e1:∀d,(Op.equalIn (d+1) f1.type (.pointer (some ⟨b1,o1,none⟩)) (.pointer (some ⟨b2,o2,none⟩))).run P w=.ok (decide (b1=b2/\o1=o2)) w:=by
  intro d
  by_cases he:b1=b2/\o1=o2
  ·obtain⟨rfl,rfl⟩:=he
   simp[Op.equalIn,run_underlying T.p,za5 T.z,run_sameAddr_same]
  ·have hne:(⟨b1,o1,none⟩:Addr)≠⟨b2,o2,none⟩:=λz=>he (by simpa using z)
   simp[Op.equalIn,run_underlying T.p,za5 T.z,run_sameAddr_other w hne hx hy,he]
 have e2:∀d,(Op.equalIn (d+1) f2.type (.int .i64 (m1:Int)) (.int .i64 (m2:Int))).run P w=.ok (decide (m1=m2)) w:=by
  intro d
  have e:((m1:Int)==(m2:Int))=decide (m1=m2):=by rw[Bool.eq_iff_iff];simp only[beq_iff_eq,decide_eq_true_eq];omega
  simp[Op.equalIn,run_underlying hq,e]
 show(Op.equalIn (9998+2) k _ _).run P w=_
 unfold keyV
 rw[Op.equalIn]
 by_cases h1:b1=b2/\o1=o2
 ·by_cases h2:m1=m2
  ·obtain⟨rfl,rfl⟩:=h1
   subst h2
   simp[run_underlying T.s,T.h,n1',n2',p1 (b1,o1,m1),p2 (b1,o1,m1),e1 9998,e2 9998]
  ·obtain⟨rfl,rfl⟩:=h1
   simp[run_underlying T.s,T.h,n1',n2',p1 (b1,o1,m1),p2 (b1,o1,m1),p1 (b1,o1,m2),p2 (b1,o1,m2),e1 9998,e2 9998,h2]
 ·have:¬((b1,o1,m1):PKey)=(b2,o2,m2):=λz=>h1 (by simp only[Prod.mk.injEq]at z;exact⟨z.1,z.2.1⟩)
  simp[run_underlying T.s,T.h,n1',n2',p1 (b1,o1,m1),p1 (b2,o2,m2),e1 9998,h1,this]
theorem z3w(T:KeyT P t k e el size f1 f2)(x:PKey)(hx:Dyn.zar w x.1):∀(es:List MapEntry) (l:List (PKey×Int)) (i:Nat),es.map (λe=>(e.key,e.val))=l.map (λx=>(keyV x.1,.int .i64 x.2))->(∀y∈l,Dyn.zar w y.1.1)->
  (Instr.findAsking k (keyV x) es i).run P w=.ok ((ixP x l).map λj=>(i+j,.int .i64 ((lkP x l).getD 0))) w
 |[],[],i,_,_=>rfl
 |[],_::_,_,h,_=>by simp at h
 |_::_,[],_,h,_=>by simp at h
 |a::es,y::l,i,h,hp=>by
  simp only[List.map_cons,List.cons.injEq,Prod.mk.injEq]at h
  obtain⟨⟨hk,hv⟩,hr⟩:=h
  have he:=ya9 (w:=w) T x y.1 hx (hp y (by simp))
  have ih:=z3w T x hx es l (i+1) hr λz hz=>hp z (by simp[hz])
  rw[Instr.findAsking]
  simp only[Sem.run_bind,hk,he,Result.andThen_ok]
  by_cases e:x=y.1
  ·have e':y.1=x:=e.symm
   simp[ixP,lkP,e,hv]
  ·have e':¬y.1=x:=λz=>e z.symm
   simp only[ixP,lkP,e',e,if_false,decide_false,Bool.false_eq_true,ih]
   congr 1
   cases ixP x l<;>simp[Nat.add_comm,Nat.add_left_comm]
theorem zr8(T:KeyT P t k e el size f1 f2)(x:PKey)(hx:Dyn.zar w x.1)(es:List MapEntry)(l:List (PKey×Int))(h:es.map (λe=>(e.key,e.val))=l.map (λx=>(keyV x.1,.int .i64 x.2)))(hp:∀y∈l,Dyn.zar w y.1.1) :
  (Instr.findKey k (keyV x) es).run P w=.ok ((ixP x l).map λj=>(j,.int .i64 ((lkP x l).getD 0))) w:=by
 have q:=z3w (w:=w) T x hx es l 0 h hp
 simp only[Nat.zero_add]at q
 unfold Instr.findKey
 simp only[Sem.run_bind,run_underlying T.s,Result.andThen_ok]
 cases es with
 |nil=>
  cases l with
  |nil=>rfl
  |cons y l=>simp at h
 |cons a es=>
  have:Instr.findNow (.struct #[f1,f2]) (keyV x) (a::es) 0=none:=by unfold keyV;simp[Instr.findNow,Instr.sameNow]
  rw[this];exact q
theorem ix_lk(x:PKey):∀l:List (PKey×Int),(ixP x l=none↔lkP x l=none)
 |[]=>by simp[ixP,lkP]
 |y::l=>by
  unfold ixP lkP
  by_cases e:y.1=x
  ·simp[e]
  ·rw[if_neg e,if_neg e,←ix_lk x l];simp
theorem z50(T:KeyT P t k e el size f1 f2)(hz:∀w,(zeroValue e).run P w=.ok (.int .i64 0) w){b:Nat}{l:List (PKey×Int)}(hm:zh1 w b l)(x:PKey)(hx:Dyn.zar w x.1)(hp:∀y∈l,Dyn.zar w y.1.1) :
  (Instr.lookup t (.map (some b)) (keyV x) true).run P w=.ok (.tuple #[.int .i64 ((lkP x l).getD 0),.bool (lkP x l).isSome]) w:=by
 obtain⟨es,clock,hb,hl⟩:=hm
 have hf:=zr8 (w:=w) T x hx es.toList l hl hp
 have hi:=ix_lk x l
 unfold Instr.lookup
 simp only[Sem.run_bind,run_underlying T.m,Result.andThen_ok,MapKept.run_getObj_map hb,Sem.run_pure,znq T x,hf]
 cases hq:ixP x l with
 |none=>
  rw[hi.1 hq]
  simp[hz]
 |some j=>
  have:lkP x l≠none:=λz=>by rw[hi.2 z]at hq;cases hq
  cases hv:lkP x l with
  |none=>exact absurd hv this
  |some v=>simp
theorem z51(T:KeyT P t k e el size f1 f2){z:Value}(hz:(zeroValue e).run P w=.ok z w)(x:PKey) :
  (Instr.lookup t (.map none) (keyV x) true).run P w=.ok (.tuple #[z,.bool false]) w:=by
 unfold Instr.lookup
 simp only[Sem.run_bind,run_underlying T.m,Result.andThen_ok,Sem.run_pure,znq T x]
 have:(Instr.findKey k (keyV x) (#[]:Array MapEntry).toList).run P w=.ok none w:=by
  unfold Instr.findKey
  simp only[Sem.run_bind,run_underlying T.s,Result.andThen_ok]
  rfl
 simp[this,hz]
theorem yf6(x:PKey):Instr.sameBits 10000 (keyV x) (keyV x)=true:=by
 unfold keyV;simp[Instr.sameBits]
theorem up_ix(x:PKey)(v:Int):∀(es:List MapEntry) (l:List (PKey×Int)) (f:MapEntry->MapEntry),es.map (λe=>(e.key,e.val))=l.map (λx=>(keyV x.1,.int .i64 x.2))->(∀a,((f a).key,(f a).val)=(keyV x,.int .i64 v))->
  ∀j,ixP x l=some j->(es.modify j f).map (λe=>(e.key,e.val))=(upP x v l).map (λx=>(keyV x.1,.int .i64 x.2))/\∃a,es[j]? = some a/\a.key=keyV x
 |[],[],f,_,_,j,h=>by simp[ixP]at h
 |[],_::_,_,h,_,_,_=>by simp at h
 |_::_,[],_,h,_,_,_=>by simp at h
 |a::es,y::l,f,h,hf,j,hj=>by
  simp only[List.map_cons,List.cons.injEq,Prod.mk.injEq]at h
  obtain⟨⟨hk,hv⟩,hr⟩:=h
  unfold ixP at hj
  unfold upP
  by_cases e:y.1=x
  ·rw[if_pos e]at hj ⊢
   simp only[Option.some.injEq]at hj;subst hj
   simp only[List.modify_zero_cons,List.map_cons,hr]
   rw[hf a]
   exact⟨rfl,a,rfl,by rw[hk,e]⟩
  ·rw[if_neg e]at hj ⊢
   cases hq:ixP x l with
   |none=>rw[hq]at hj;simp at hj
   |some i=>
    rw[hq]at hj
    simp only[Option.map_some,Option.some.injEq]at hj;subst hj
    obtain⟨i1,a',i2,i3⟩:=up_ix x v es l f hr hf i hq
    simp only[List.modify_succ_cons,List.map_cons,i1,hk,hv]
    exact⟨trivial,a',by simpa using i2,i3⟩
theorem z69(x:PKey)(v:Int):∀l:List (PKey×Int),ixP x l=none->upP x v l=l++[(x,v)]
 |[],_=>rfl
 |y::l,h=>by
  unfold ixP at h
  unfold upP
  by_cases e:y.1=x
  ·rw[if_pos e]at h;cases h
  ·rw[if_neg e]at h ⊢
   rw[z69 x v l (by simpa using h)];rfl
theorem z4m(T:KeyT P t k e el size f1 f2){b:Nat}{l:List (PKey×Int)}(hm:zh1 w b l)(x:PKey)(v:Int)(hx:Dyn.zar w x.1)(hp:∀y∈l,Dyn.zar w y.1.1) :
  ∃w',(Instr.mapUpdate t (.map (some b)) (keyV x) (.int .i64 v)).run P w=.ok () w'/\zh1 w' b (upP x v l)/\w.grownBy w' (some b)/\w'.heap.size=w.heap.size:=by
 obtain⟨es,clock,hb,hl⟩:=hm
 have hf:=zr8 (w:=w) T x hx es.toList l hl hp
 have hlt:b<w.heap.size:=(Array.getElem?_eq_some_iff.1 hb).1
 have post:∀o:Obj,w.grownBy {w with heap:=w.heap.setIfInBounds b o} (some b)/\({w with heap:=w.heap.setIfInBounds b o}:World).heap.size=w.heap.size:=λo=>
  ⟨⟨rfl,rfl,rfl,by simp,λi hi hn=>by
   show(w.heap.setIfInBounds b o)[i]? = _
   rw[Array.getElem?_setIfInBounds,if_neg (λe=>hn (by rw[e]))]⟩,by simp⟩
 have at_:∀o:Obj,({w with heap:=w.heap.setIfInBounds b o}:World).heap[b]? = some o:=λo=>by
  show(w.heap.setIfInBounds b o)[b]? = _
  rw[Array.getElem?_setIfInBounds,if_pos rfl,if_pos hlt]
 cases hq:ixP x l with
 |none=>
  rw[hq]at hf
  refine⟨{w with heap:=w.heap.setIfInBounds b (.map (es.push {key:=keyV x,val:=.int .i64 v,born:=clock}) (clock+1))},?_,⟨_,_,at_ _,?_⟩,(post _).1,(post _).2⟩
  ·unfold Instr.mapUpdate
   simp[run_underlying T.m,MapKept.run_getObj_map hb,znq T x,hf,MapKept.run_setObj_map _ hb]
  ·rw[Array.toList_push,List.map_append,hl,z69 x v l hq];simp
 |some j=>
  rw[hq]at hf
  obtain⟨i1,a,i2,i3⟩:=up_ix x v es.toList l (λq=>{q with key:=keyV x,val:=.int .i64 v}) hl (λ_=>rfl) j hq
  have i2':es[j]? = some a:=by rw[←Array.getElem?_toList];exact i2
  refine⟨{w with heap:=w.heap.setIfInBounds b (.map (es.modify j λq=>{q with key:=keyV x,val:=.int .i64 v}) clock)},?_,⟨_,_,at_ _,?_⟩,(post _).1,(post _).2⟩
  ·unfold Instr.mapUpdate
   simp[run_underlying T.m,MapKept.run_getObj_map hb,znq T x,hf,i2',i3,Instr.keyThatStays,yf6,MapKept.run_setObj_map _ hb]
  ·rw[Array.toList_modify];exact i1
end
def dPt(s:Shp):Dyn.DC:=.row (toSh s).n (toSh s).f
inductive TyD:Dyn.DC->Prop where
 |i (x:Int):TyD (.p (vi x))
 |b (x:Bool):TyD (.p (vb x))
 |pts (m:Nat) (p:Nat->P2):TyD (cRow m p)
 |ctr (l:Ctr):TyD (cCtr l)
 |prt (s:Shp):ShB s->TyD (dPt s)
theorem TyD.wide{n:Nat}{f:Nat->List Dyn.DC}(h:TyD (.row n f))(hn:0<n):(∃x,(f 0).getD 0 default=.p (vi x))/\(∀i,i<n->(f i).length=2)\/(∃m p,(f 0).getD 0 default=cRow m p)/\(∀i,i<n->(f i).length=1)\/(∃x,(f 0).getD 0 default=.p (vb x))/\(∀i,i<n->(f i).length=11):=by
 generalize hd:Dyn.DC.row n f=d at h
 cases h with
 |i x=>cases hd
 |b x=>cases hd
 |pts m p=>cases hd;exact .inl ⟨⟨_,rfl⟩,λi _=>rfl⟩
 |ctr l=>cases hd;exact .inr (.inl ⟨⟨_,_,rfl⟩,λi _=>rfl⟩)
 |prt s hs=>
  cases s with
  |nil=>exact hs.elim
  |mk k a b c r l n add sub=>cases hd;exact .inr (.inr ⟨⟨_,rfl⟩,λi _=>rfl⟩)
theorem TyD.part{n:Nat}{f:Nat->List Dyn.DC}(h:TyD (.row n f)){i j:Nat}(hi:i<n)(hj:j<(f i).length):TyD ((f i).getD j default):=by
 generalize hd:Dyn.DC.row n f=d at h
 cases h with
 |i x=>cases hd
 |b x=>cases hd
 |pts m p=>
  cases hd
  have:j=0\/j=1:=by have:j<2:=hj;omega
  rcases this with rfl|rfl
  ·exact .i _
  ·exact .i _
 |ctr l=>
  cases hd
  obtain rfl:j=0:=by have:j<1:=hj;omega
  exact .pts _ _
 |prt s hs=>
  cases s with
  |nil=>exact hs.elim
  |mk k a b c r l n add sub=>
   cases hd
   have hB:=hs.2.2 i hi
   have:j=0\/j=1\/j=2\/j=3\/j=4\/j=5\/j=6\/j=7\/j=8\/j=9\/j=10:=by have:j<11:=hj;omega
   rcases this with rfl|rfl|rfl|rfl|rfl|rfl|rfl|rfl|rfl|rfl|rfl
   ·exact .b _
   ·exact .i _
   ·exact .i _
   ·exact .i _
   ·exact .i _
   ·exact .i _
   ·exact .i _
   ·exact .i _
   ·exact .i _
   ·exact .ctr _
   ·exact .prt _ hB
theorem zhf{w:World}{F:Nat->Prop}{x v:Value}(h:Dyn.DenC w F (.p x) v):v=x:=by cases h;rfl
theorem TyD.noSl{x:Value}(h:TyD (.p x)):∀o n c,x≠.slice o n c:=by
 generalize hd:Dyn.DC.p x=d at h
 cases h with
 |i x=>cases hd;exact λ_ _ _ e=>by cases e
 |b x=>cases hd;exact λ_ _ _ e=>by cases e
 |pts m p=>cases hd
 |ctr l=>cases hd
 |prt s hs=>cases hd
theorem zev{w:World}{F:Nat->Prop}{n:Nat}{f:Nat->List Dyn.DC}{v:Value}(h:Dyn.DenC w F (.row n f) v):∃oa cap,v=.slice oa n cap:=by
 cases h with
 |nil=>exact⟨_,_,rfl⟩
 |row=>exact⟨_,_,rfl⟩
theorem znt{w:World}{F F':Nat->Prop}{d d':Dyn.DC}{v:Value}(h:Dyn.DenC w F d v)(h':Dyn.DenC w F' d' v) :
  (∀x,d=.p (vi x)->(∀m p,d'≠cRow m p)/\(∀y,d'≠.p (vb y)))/\(∀x,d=.p (vb x)->(∀m p,d'≠cRow m p)):=by
 refine⟨λx e=>⟨λm p e'=>?_,λy e'=>?_⟩,λx e m p e'=>?_⟩
 ·subst e;subst e'
  obtain⟨oa,cap,q⟩:=zev h'
  rw[zhf h]at q;cases q
 ·subst e;subst e'
  have:=(zhf h).symm.trans (zhf h');cases this
 ·subst e;subst e'
  obtain⟨oa,cap,q⟩:=zev h'
  rw[zhf h]at q;cases q
theorem ycb{w:World}{F F':Nat->Prop}{d:Dyn.DC}{u:Value}(h:Dyn.DenC w F d u):∀{d':Dyn.DC},TyD d->TyD d'->Dyn.DenC w F' d' u->∀{w2:World} {F2:Nat->Prop} {v:Value},Dyn.DenC w2 F2 d v->Dyn.DenC w2 F2 d' v:=by
 induction h with
 |p x hx=>
  intro d' t t' h' w2 F2 v hv
  cases h' with
  |p _=>exact hv
  |nil f oa cap=>exact absurd rfl (t.noSl _ _ _)
  |row n f b off cap size g=>exact absurd rfl (t.noSl _ _ _)
  |ptr=>cases t'
 |nil f oa cap=>
  intro d' t t' h' w2 F2 v hv
  obtain⟨oa2,cap2,rfl⟩:=zev hv
  generalize hu:Value.slice oa 0 cap=u at h'
  cases h' with
  |p _=>subst hu;exact absurd rfl (t'.noSl _ _ _)
  |nil f' oa' cap'=>exact .nil _ _ _
  |row n f' b off cap' size g=>cases hu;exact .nil _ _ _
  |ptr=>cases hu
 |row n f b off cap size g hk hF hc hd ih=>
  intro d' t t' h' w2 F2 v hv
  by_cases hz:n=0
  ·subst hz
   obtain⟨oa2,cap2,rfl⟩:=zev hv
   generalize hu:Value.slice (some ⟨b,off,none⟩) 0 cap=u at h'
   cases h' with
   |p _=>subst hu;exact absurd rfl (t'.noSl _ _ _)
   |nil f' oa' cap'=>exact .nil _ _ _
   |row n f' b off cap' size g=>cases hu;exact .nil _ _ _
   |ptr=>cases hu
  ·have h0:0<n:=by omega
   cases h' with
   |p _=>exact absurd rfl (t'.noSl _ _ _)
   |nil=>exact absurd rfl hz
   |row _ f' _ _ _ size' g' hk' hF' hc' hd'=>
    have es:size=size':=by
     have a:=t.wide h0
     have a':=t'.wide h0
     have l:=(hc 0 h0).1
     have l':=(hc' 0 h0).1
     have hs0:0<size:=by
      rcases a with⟨_,a⟩|⟨_,a⟩|⟨_,a⟩<;>have:=a 0 h0<;>omega
     have hs0':0<size':=by
      rcases a' with⟨_,a⟩|⟨_,a⟩|⟨_,a⟩<;>have:=a 0 h0<;>omega
     have e0:g 0 0=g' 0 0:=by
      have q:=(hc 0 h0).2 0 hs0
      have q':=(hc' 0 h0).2 0 hs0'
      rw[Nat.zero_mul]at q q'
      exact Option.some.inj (q.symm.trans q')
     have p:=hd 0 0 h0 hs0
     have p':=hd' 0 0 h0 hs0'
     rw[←e0]at p'
     have k:=znt p p'
     have k':=znt p' p
     rcases a with⟨⟨x,e⟩,z⟩|⟨⟨m,q,e⟩,z⟩|⟨⟨x,e⟩,z⟩<;>rcases a' with⟨⟨x',e'⟩,z'⟩|⟨⟨m',q',e'⟩,z'⟩|⟨⟨x',e'⟩,z'⟩<;>have y:=z 0 h0<;>have y':=z' 0 h0
     ·omega
     ·exact absurd e' ((k.1 _ e).1 _ _)
     ·exact absurd e' ((k.1 _ e).2 _)
     ·exact absurd e ((k'.1 _ e').1 _ _)
     ·omega
     ·exact absurd e (k'.2 _ e' _ _)
     ·exact absurd e ((k'.1 _ e').2 _)
     ·exact absurd e' (k.2 _ e _ _)
     ·omega
    subst es
    have eg:∀i j,i<n->j<size->g i j=g' i j:=λi j hi hj=>Option.some.inj (((hc i hi).2 j hj).symm.trans ((hc' i hi).2 j hj))
    cases hv with
    |nil=>exact absurd rfl hz
    |row _ _ b2 off2 cap2 size2 g2 hk2 hF2 hc2 hd2=>
     have e2:size2=size:=by rw[←(hc2 0 h0).1,←(hc 0 h0).1]
     subst e2
     exact .row n f' b2 off2 cap2 size2 g2 hk2 hF2 (λi hi=>⟨(hc' i hi).1,(hc2 i hi).2⟩) λi j hi hj=>
      ih i j hi hj (t.part hi (by rw[(hc i hi).1];exact hj)) (t'.part hi (by rw[(hc' i hi).1];exact hj)) (by rw[eg i j hi hj];exact hd' i j hi hj) (hd2 i j hi hj)
 |ptr=>intro d' t;cases t
theorem yhw{w w':World}{G G':Nat->Prop}{cb co:Nat}{u u':Value}{d0:Dyn.DC}(t0:TyD d0)(h0:Dyn.DenC w G d0 u)(h1:Dyn.DenC w' G' d0 u')(hc:w.cell? ⟨cb,co,none⟩=some u)(hc':w'.cell? ⟨cb,co,none⟩=some u')
  (hs:∀b i,G b->(b≠cb\/i≠co)->w'.cell? ⟨b,i,none⟩=w.cell? ⟨b,i,none⟩) (hG:∀b,G b->G' b) {d:Dyn.DC} {v:Value} (h:Dyn.DenC w G d v):TyD d->Dyn.DenC w' G' d v:=by
 induction h with
 |p x hx=>exact λ_=>.p x hx
 |nil f oa cap=>exact λ_=>.nil f oa cap
 |row n f b off cap size g hk hF hcl hd ih=>
  intro t
  refine .row n f b off cap size (λi j=>if b=cb/\off+i*size+j=co then u' else g i j) hk (hG b hF) (λi hi=>⟨(hcl i hi).1,λj hj=>?_⟩) λi j hi hj=>?_
  ·by_cases e:b=cb/\off+i*size+j=co
   ·rw[if_pos e,e.1,e.2];exact hc'
   ·rw[if_neg e,hs b _ hF (by omega)];exact(hcl i hi).2 j hj
  ·have tp:=t.part hi (j:=j) (by rw[(hcl i hi).1];exact hj)
   by_cases e:b=cb/\off+i*size+j=co
   ·rw[if_pos e]
    have q:=(hcl i hi).2 j hj
    rw[e.1,e.2,hc]at q
    have q':=Option.some.inj q
    have dd:=hd i j hi hj
    rw[←q']at dd
    exact ycb h0 t0 tp dd h1
   ·rw[if_neg e];exact ih i j hi hj tp
 |ptr=>intro t;cases t
inductive Rk:Dyn.DC->Nat->Prop where
 |i (x:Int):Rk (.p (vi x)) 0
 |b (x:Bool):Rk (.p (vb x)) 0
 |pts (m:Nat) (p:Nat->P2):Rk (cRow m p) 1
 |ctr (l:Ctr):Rk (cCtr l) 2
 |prt (s:Shp):ShB s->Rk (dPt s) (3+cntS s)
theorem Rk.ty{d:Dyn.DC}{r:Nat}(h:Rk d r):TyD d:=by
 cases h with
 |i x=>exact .i x
 |b x=>exact .b x
 |pts m p=>exact .pts m p
 |ctr l=>exact .ctr l
 |prt s hs=>exact .prt s hs
theorem Rk.part{n:Nat}{f:Nat->List Dyn.DC}{r:Nat}(h:Rk (.row n f) r){i j:Nat}(hi:i<n)(hj:j<(f i).length):∃q,q<r/\Rk ((f i).getD j default) q:=by
 generalize hd:Dyn.DC.row n f=d at h
 cases h with
 |i x=>cases hd
 |b x=>cases hd
 |pts m p=>
  cases hd
  have:j=0\/j=1:=by have:j<2:=hj;omega
  rcases this with rfl|rfl
  ·exact⟨0,by omega,.i _⟩
  ·exact⟨0,by omega,.i _⟩
 |ctr l=>
  cases hd
  obtain rfl:j=0:=by have:j<1:=hj;omega
  exact⟨1,by omega,.pts _ _⟩
 |prt s hs=>
  cases s with
  |nil=>exact hs.elim
  |mk k a b c r l n add sub=>
   cases hd
   have hB:=hs.2.2 i hi
   have hc:1+cntS (sub i)<=sumC (λi=>1+cntS (sub i)) n:=z89 (f:=λi=>1+cntS (sub i)) hi
   have e:cntS (.mk k a b c r l n add sub)=sumC (λi=>1+cntS (sub i)) n:=rfl
   have:j=0\/j=1\/j=2\/j=3\/j=4\/j=5\/j=6\/j=7\/j=8\/j=9\/j=10:=by have:j<11:=hj;omega
   rcases this with rfl|rfl|rfl|rfl|rfl|rfl|rfl|rfl|rfl|rfl|rfl
   ·exact⟨0,by omega,.b _⟩
   ·exact⟨0,by omega,.i _⟩
   ·exact⟨0,by omega,.i _⟩
   ·exact⟨0,by omega,.i _⟩
   ·exact⟨0,by omega,.i _⟩
   ·exact⟨0,by omega,.i _⟩
   ·exact⟨0,by omega,.i _⟩
   ·exact⟨0,by omega,.i _⟩
   ·exact⟨0,by omega,.i _⟩
   ·exact⟨2,by omega,.ctr _⟩
   ·exact⟨3+cntS (sub i),by omega,.prt _ hB⟩
theorem Rk.kind{n:Nat}{f:Nat->List Dyn.DC}{r:Nat}(h:Rk (.row n f) r)(hn:0<n):r=1/\(∃x,(f 0).getD 0 default=.p (vi x))/\0<(f 0).length\/r=2/\(∃m p,(f 0).getD 0 default=cRow m p)/\0<(f 0).length\/(∃s,ShB s/\Dyn.DC.row n f=dPt s/\r=3+cntS s)/\(∃x,(f 0).getD 0 default=.p (vb x))/\0<(f 0).length:=by
 generalize hd:Dyn.DC.row n f=d at h
 cases h with
 |i x=>cases hd
 |b x=>cases hd
 |pts m p=>cases hd;exact .inl ⟨rfl,⟨_,rfl⟩,Nat.zero_lt_succ _⟩
 |ctr l=>cases hd;exact .inr (.inl ⟨rfl,⟨_,_,rfl⟩,Nat.zero_lt_succ _⟩)
 |prt s hs=>
  refine .inr (.inr ⟨⟨s,hs,rfl,rfl⟩,?_⟩)
  cases s with
  |nil=>exact hs.elim
  |mk k a b c r l n add sub=>cases hd;exact⟨⟨_,rfl⟩,Nat.zero_lt_succ _⟩
theorem rk_det{w:World}{F:Nat->Prop}{n n':Nat}{f f':Nat->List Dyn.DC}{u:Value}{r r':Nat}(k:Rk (.row n f) r)(k':Rk (.row n' f') r')(h:Dyn.DenC w F (.row n f) u)(h':Dyn.DenC w F (.row n' f') u):n=n'/\(0<n->r=r'):=by
 obtain⟨oa,cap,rfl⟩:=zev h
 obtain⟨oa',cap',e⟩:=zev h'
 cases e
 refine⟨rfl,λhn=>?_⟩
 have a:=k.kind hn
 have a':=k'.kind hn
 have hl:0<(f 0).length:=by rcases a with⟨_,_,a⟩|⟨_,_,a⟩|⟨_,_,a⟩<;>exact a
 have hl':0<(f' 0).length:=by rcases a' with⟨_,_,a⟩|⟨_,_,a⟩|⟨_,_,a⟩<;>exact a
 have hh:=h
 have hh':=h'
 cases h with
 |nil=>exact absurd hn (Nat.lt_irrefl 0)
 |row _ _ b off _ size g hk hF hc hd=>
  cases h' with
  |nil=>exact absurd hn (Nat.lt_irrefl 0)
  |row _ _ _ _ _ size' g' hk' hF' hc' hd'=>
   have l:=(hc 0 hn).1
   have l':=(hc' 0 hn).1
   have q:=(hc 0 hn).2 0 (by omega)
   have q':=(hc' 0 hn).2 0 (by omega)
   rw[Nat.zero_mul]at q q'
   have e0:=Option.some.inj (q.symm.trans q')
   have p:=hd 0 0 hn (by omega)
   have p':=hd' 0 0 hn (by omega)
   rw[←e0]at p'
   have z:=znt p p'
   have z':=znt p' p
   rcases a with⟨rfl,⟨x,e⟩,_⟩|⟨rfl,⟨m,y,e⟩,_⟩|⟨⟨s,hs,es,rfl⟩,⟨x,e⟩,_⟩<;>rcases a' with⟨rfl,⟨x',e'⟩,_⟩|⟨rfl,⟨m',y',e'⟩,_⟩|⟨⟨s',hs',es',rfl⟩,⟨x',e'⟩,_⟩
   ·rfl
   ·exact absurd e' ((z.1 _ e).1 _ _)
   ·exact absurd e' ((z.1 _ e).2 _)
   ·exact absurd e ((z'.1 _ e').1 _ _)
   ·rfl
   ·exact absurd e (z'.2 _ e' _ _)
   ·exact absurd e ((z'.1 _ e').2 _)
   ·exact absurd e' (z.2 _ e _ _)
   ·rw[es]at hh
    rw[es']at hh'
    obtain⟨oa1,cap1,q1,q2⟩:=ycc s hs hh
    obtain⟨oa2,cap2,q3,q4⟩:=ycc s' hs' hh'
    have en:(toSh s).n=(toSh s').n:=by
     have a1:=congrArg (λd=>match d with|Dyn.DC.row n _=>n|_=>0) es
     have a2:=congrArg (λd=>match d with|Dyn.DC.row n _=>n|_=>0) es'
     exact a1.symm.trans a2
    rw[q1]at q3
    simp only[Value.slice.injEq]at q3
    rw[←q3.1,←en]at q4
    rw[q2.det q4]
theorem yhv{w:World}{G:Nat->Prop}{cb co:Nat}{u u':Value}{n0:Nat}{f0:Nat->List Dyn.DC}{r0:Nat}(k0:Rk (.row n0 f0) r0)(hc:w.cell? ⟨cb,co,none⟩=some u)(h0:Dyn.DenC w G (.row n0 f0) u)(h1:Dyn.DenC w G (.row n0 f0) u'){w':World}(hc':w'.cell? ⟨cb,co,none⟩=some u')
  (hs:∀b i,G b->(b≠cb\/i≠co)->w'.cell? ⟨b,i,none⟩=w.cell? ⟨b,i,none⟩):Dyn.DenC w' G (.row n0 f0) u':=by
 have key:∀{d:Dyn.DC} {v:Value},Dyn.DenC w G d v->∀r,Rk d r->r<=r0->Dyn.DenC w' G d v:=by
  intro d v h
  induction h with
  |p x hx=>exact λ_ _ _=>.p x hx
  |nil f oa cap=>exact λ_ _ _=>.nil f oa cap
  |row n f b off cap size g hk hF hcl hd ih=>
   intro r k hr
   refine .row n f b off cap size (λi j=>if b=cb/\off+i*size+j=co then u' else g i j) hk hF (λi hi=>⟨(hcl i hi).1,λj hj=>?_⟩) λi j hi hj=>?_
   ·by_cases e:b=cb/\off+i*size+j=co
    ·rw[if_pos e,e.1,e.2];exact hc'
    ·rw[if_neg e,hs b _ hF (by omega)];exact(hcl i hi).2 j hj
   ·obtain⟨q,hq,kq⟩:=k.part hi (j:=j) (by rw[(hcl i hi).1];exact hj)
    by_cases e:b=cb/\off+i*size+j=co
    ·rw[if_pos e]
     have z:=(hcl i hi).2 j hj
     rw[e.1,e.2,hc]at z
     have z':=Option.some.inj z
     have dd:=hd i j hi hj
     rw[←z']at dd
     obtain⟨oa,cap,eu⟩:=zev h0
     generalize (f i).getD j default=de at dd kq
     cases de with
     |p x=>exact absurd (zhf dd).symm (kq.ty.noSl _ _ _<|eu▸·)
     |ptr=>cases kq
     |row m fm=>
      have y:=rk_det kq k0 dd h0
      by_cases hm:0<m
      ·have:=y.2 hm;omega
      ·have m0:m=0:=by omega
       subst m0
       have y0:=y.1
       subst y0
       obtain⟨oa',cap',eu'⟩:=zev h1
       rw[eu'];exact .nil _ _ _
    ·rw[if_neg e];exact ih i j hi hj q kq (by omega)
  |ptr=>intro r k;cases k
 exact key h1 r0 k0 (Nat.le_refl _)
def yl6:Dyn.Tabs:=Dyn.tabs tbF [] noD dtyS
theorem z2a:Dyn.zal Tryz.prog yl6:=Dyn.zb0 zcy λ_ h=>by cases h
def ctrF(l:Ctr)(i:Nat):List Dyn.DC:=[.row (0+l.m i) (Dyn.appF 0 (λ_=>[]) λk=>cP (l.p i k))]
def ctrZ:List Dyn.DC:=[.row 0 λ_=>[]]
def ctrS(l:Ctr)(i:Int)(f:Nat->List Dyn.DC):Dyn.St:=mkS 26 [(3,sH 1 0 l.n),(12,sH 0 0 l.n),(13,sI l.n),(14,sI i)] [some (.deep [cCtr l]),some (.own 77 l.n f)]
def ctrK:List Nat:=[3,12,13,14]
def z6d(l:Ctr):Dyn.Lp:=λid st=>match id with
 |0=>some (.side [zc2 26 [0] [3] ctrK (2 ^ 14) st=ctrS l 0 (fil (ctrF l) ctrZ 0)] (.leaf .normal (ctrS l (l.n:Nat) (ctrF l))))
 |_=>none
theorem z6b:zam (zbx Tryz.f79.body)=[(0,.loop (zab (blkD Tryz.f79.body 0))),(1,blkD Tryz.f79.body 1)]:=by kernel_rfl
theorem ctr_b0:zam (zab (blkD Tryz.f79.body 0))=[(1,blkD Tryz.f79.body 1)]:=by kernel_rfl
def szA(b n:Nat):Prop:=(n:Int)*(b:Int)<=140737488355328/\(n:Int)<=9223372036854775807
theorem szA_ok{b n:Nat}(hb:b<=1000)(hn:n<=1000000000):szA b n:=by
 refine⟨?_,by omega⟩
 have:n*b<=1000000000*1000:=Nat.mul_le_mul hn hb
 have h2:(n:Int)*(b:Int)=((n*b:Nat):Int):=by rw[Int.natCast_mul]
 rw[h2];omega
def ctrB(l:Ctr)(i:Nat):Dyn.Out:=
 .ite (decide ((i:Int)<l.n)) (.side [0<=(i:Int)/\(i:Int)<l.n] (.side [szA 16 (0+l.m i),0<=(i:Int)/\(i:Int)<l.n] (.leaf .normal (ctrS l (W (i+1)) (Dyn.updF (fil (ctrF l) ctrZ i) i 0 (ctrF l i)))))) (.leaf (.exit 0) (ctrS l i (fil (ctrF l) ctrZ i)))
theorem ctr_B(l:Ctr)(i:Nat):(Dyn.zbm Tryz.prog yl6 (z6d l) 3 (zab (blkD Tryz.f79.body 0)) .leaf (ctrS l i (fil (ctrF l) ctrZ i))).rl (λ_ s=>zc2 26 [0] [3] ctrK 0 s)=ctrB l i:=by kernel_rfl
theorem yhx(l:Ctr)(hl:CtrB l)(w0:Dyn.Base Tryz.prog)(st:Dyn.St)(o:Dyn.Out)(h:z6d l 0 st=some o):Dyn.zai Tryz.prog w0 0 (.loop (zab (blkD Tryz.f79.body 0))) st o:=by
 simp only[z6d,Option.some.injEq]at h
 subst h
 refine zcc λhS=>?_
 refine znp (s1:=ctrS l (l.n:Nat) (fil (ctrF l) ctrZ l.n)) (za9 (fuel:=3) z2a mo (lp:=z6d l) (by rw[ctr_b0];exact zaa (λs o h=>by cases h) zao) (λi (_:Unit)=>ctrS l i (fil (ctrF l) ctrZ i)) l.n (λ_ _=>()) () (λ_ s=>zc2 26 [0] [3] ctrK 0 s) (λ_ s=>za0 26 _ _ _ 0 s) (λi _=>ctrB l i) (λi _=>ctr_B l i) (λi hi=>?_) ?_ (hS▸za0 26 _ _ _ _ st)) ?_
 ·have hb:0<=(i:Int)/\(i:Int)<l.n:=⟨by omega,by omega⟩
  refine⟨λ_=>⟨⟨hb,trivial⟩,⟨szA_ok (by decide) (by have:=hl.2 i hi;omega),hb,trivial⟩,rfl,?_⟩,λhf=>?_⟩
  ·rw[Wn1 hi hl.1]
   exact⟨rfl,Dyn.HeLe.refl _,z3h (λ_=>rfl) rfl,trivial⟩
  ·rw[decide_eq_false_iff_not]at hf;omega
 ·refine⟨λht=>?_,λ_=>⟨rfl,Dyn.Fits.refl _⟩⟩
  rw[decide_eq_true_eq]at ht;omega
 ·exact⟨rfl,Dyn.HeLe.refl _,⟨rfl,rfl,λj hj=>zr9 rfl hj⟩,trivial⟩
def ctrO(l:Ctr):Dyn.RO:=.ite ((l.n:Int)==0) (.leaf (.val (.one (.row 0 λ_=>[])))) (.side [szM 24 l.n] (.side [ctrS l 0 (fil (ctrF l) ctrZ 0)=ctrS l 0 (fil (ctrF l) ctrZ 0)] (.leaf (.val (.one (.row l.n (ctrF l)))))))
theorem ctr_O(l:Ctr):(Dyn.dfun Tryz.prog yl6 (z6d l) 3 Tryz.f79 [dvC l]).ro Tryz.prog Tryz.f79.results=ctrO l:=by kernel_rfl
theorem yok(l:Ctr)(i:Nat):ctrF l i=[cRow (l.m i) (l.p i)]:=by
 unfold ctrF;rw[Nat.zero_add];rfl
theorem zxo(l:Ctr)(hl:CtrB l):Dyn.zav Tryz.prog 79 [dvC l] (.val (dvC l)):=
 Dyn.zbs (lp:=z6d l) (fuel:=3) z2a mo Tryz.func79 (by kernel_rfl) (c:=zbx Tryz.f79.body) (by kernel_rfl)
  (λw0=>by rw[z6b];exact zaa (yhx l hl w0) (zaa (λs o h=>by cases h) zao))
  (by kernel_rfl) (ctr_O l) (by
   refine⟨λh=>?_,λh=>⟨⟨z2d (by decide) hl.1,trivial⟩,⟨rfl,trivial⟩,rfl,λi _=>yok l i⟩⟩
   have e:l.n=0:=by
               have e:(l.n:Int)=0:=by simpa using h
               omega
   exact⟨e.symm,λi hi=>absurd hi (Nat.not_lt_zero i)⟩)
def zd7(w:World)(base e size g cap n:Nat)(xs:List Value):Prop:=
 ∃cur,base<=g/\w.heap[g]? = some (.cells cur e (0,0))/\n<=cap/\cap<=maxLen/\cur.size=cap*size/\cur.toList.take (n*size)=xs/\xs.length=n*size
theorem zd7.owns{w:World}{base e size g cap n:Nat}{xs:List Value}(h:zd7 w base e size g cap n xs):w.ownsRow base e size (.slice (some ⟨g,0,none⟩) n cap) n xs:=by
 obtain⟨cur,h1,h2,h3,h4,h5,h6,h7⟩:=h
 exact⟨h7,.inr ⟨g,cap,cur,rfl,h1,h2,h3,h4,h5,h6⟩⟩
theorem zd7.of_owns{w:World}{base e size n:Nat}{v:Value}{xs:List Value}(h:w.ownsRow base e size v n xs)(hn:0<n):∃g cap,v=.slice (some ⟨g,0,none⟩) n cap/\zd7 w base e size g cap n xs:=by
 rcases h.2 with⟨_,hz⟩|⟨g,cap,cur,rfl,h1,h2,h3,h4,h5,h6⟩
 ·omega
 ·exact⟨g,cap,rfl,cur,h1,h2,h3,h4,h5,h6,h.1⟩
theorem zd7.kept{w w':World}{base e size g cap n:Nat}{xs:List Value}(h:zd7 w base e size g cap n xs)(hg:w'.heap[g]? = w.heap[g]?):zd7 w' base e size g cap n xs:=by
 obtain⟨cur,h1,h2,h3⟩:=h
 exact⟨cur,h1,hg.trans h2,h3⟩
theorem zd7.lt{w:World}{base e size g cap n:Nat}{xs:List Value}(h:zd7 w base e size g cap n xs):g<w.heap.size:=by
 obtain⟨cur,h1,h2,h3⟩:=h
 exact(Array.getElem?_eq_some_iff.1 h2).1
theorem zd7.cell{w:World}{base e size g cap n:Nat}{xs:List Value}(h:zd7 w base e size g cap n xs){j:Nat}{u:Value}(hj:xs[j]? = some u):w.cell? ⟨g,j,none⟩=some u:=by
 obtain⟨cur,h1,h2,h3,h4,h5,h6,h7⟩:=h
 rw[←h6,List.getElem?_take]at hj
 split at hj
 ·simpa [World.cell?,h2]using hj
 ·cases hj
theorem zd7.froz{w:World}{base e size g cap n:Nat}{xs:List Value}(h:zd7 w base e size g cap n xs)(j:Nat):w.frozen? ⟨g,j,none⟩=false:=by
 obtain⟨cur,h1,h2,h3⟩:=h
 simp[World.frozen?,h2]
theorem zcv{w:World}{g j:Nat}{cur:Array Value}{e:TypeId}{v:Value}(h:w.heap[g]? = some (.cells cur e (0,0))):(w.setCell ⟨g,j,none⟩ v).heap[g]? = some (.cells (cur.setIfInBounds j v) e (0,0)):=by
 simp[World.setCell,Array.getElem?_modify,h]
theorem zbd{w:World}{g j k:Nat}{v:Value}(h:k≠g):(w.setCell ⟨g,j,none⟩ v).heap[k]? = w.heap[k]?:=by
 simp[World.setCell,Array.getElem?_modify,Ne.symm h]
theorem zd7.set{w:World}{base e size g cap n:Nat}{xs:List Value}(h:zd7 w base e size g cap n xs){j:Nat}(u:Value)(hj:j<xs.length):zd7 (w.setCell ⟨g,j,none⟩ u) base e size g cap n (xs.set j u):=by
 obtain⟨cur,h1,h2,h3,h4,h5,h6,h7⟩:=h
 refine⟨cur.setIfInBounds j u,h1,zcv h2,h3,h4,by simp[h5],?_,by simp[h7]⟩
 rw[Array.toList_setIfInBounds,List.take_set,h6]
theorem zd7.pop{w:World}{base e size g cap n:Nat}{xs ys:List Value}(h:zd7 w base e size g cap (n+1) (xs++ys))(hy:ys.length=size):zd7 w base e size g cap n xs:=by
 obtain⟨cur,h1,h2,h3,h4,h5,h6,h7⟩:=h
 have hx:xs.length=n*size:=by rw[List.length_append,hy,Nat.add_mul,Nat.one_mul]at h7;omega
 refine⟨cur,h1,h2,by omega,h4,h5,?_,hx⟩
 have:=congrArg (List.take (n*size)) h6
 rw[List.take_take,Nat.min_eq_left (by rw[Nat.add_mul];omega)]at this
 rw[this,←hx,List.take_left']
 rfl
structure Lev where
 b:Nat
 off:Nat
 n:Nat
 cap:Nat
 nx:Nat
 a:Nat->Option Addr
 m:Nat->Nat
 q:Nat->Nat
 c:Nat->Nat
def Lev.pre(t:Lev)(k:Nat):Nat:=sumC (λi=>1+t.c i) k
def Lev.tot(t:Lev):Nat:=t.pre t.n
def Lev.key(t:Lev):PKey:=(t.b,t.off,t.n)
def Lev.cells(t:Lev):List Value:=[.slice (some ⟨t.b,t.off,none⟩) t.n t.cap,.int .i64 (t.nx:Int),.int .i64 (t.pre t.nx:Int)]
def lvX:List Lev->List Value
 |[]=>[]
 |t::L=>lvX L++t.cells
theorem zjb:∀L:List Lev,(lvX L).length=L.length*3
 |[]=>rfl
 |t::L=>by simp only[lvX,List.length_append,zjb L,List.length_cons];show L.length*3+3=_;omega
structure Lev.ok(w:World)(F:Nat->Prop)(C:Nat)(t:Lev):Prop where
 n0:0<t.n
 nx:t.nx<=t.n
 hF:F t.b
 cell:∀i,i<t.n->w.cell? ⟨t.b,t.off+i*11+10,none⟩=some (.slice (t.a i) (t.m i) (t.q i))
 pc:∀i,i<t.n->PC w F (t.a i) (t.m i) (t.c i)
 C:t.tot<=C
theorem Lev.ok.tpc{w:World}{F:Nat->Prop}{C:Nat}{t:Lev}(h:t.ok w F C):PC w F (some ⟨t.b,t.off,none⟩) t.n t.tot:=.row t.b t.off t.n t.a t.m t.q t.c h.n0 h.hF h.cell h.pc
theorem ykj{w:World}{F:Nat->Prop}{b off n c cap:Nat}(h:PC w F (some ⟨b,off,none⟩) n c)(hn:0<n):∃t:Lev,t.b=b/\t.off=off/\t.n=n/\t.cap=cap/\t.nx=0/\t.tot=c/\∀C,c<=C->t.ok w F C:=by
 cases h with
 |nil=>omega
 |row _ _ _ a m q c hn hF hc hp=>exact⟨⟨b,off,n,cap,0,a,m,q,c⟩,rfl,rfl,rfl,rfl,rfl,rfl,λC hC=>⟨hn,Nat.zero_le _,hF,hc,hp,hC⟩⟩
def knB(l:List (PKey×Int))(oa:Option Addr)(m:Nat):Bool:=match oa,m with
 |some a,m+1=>(lkP (a.block,a.off,m+1) l).isSome
 |_,_=>true
def Lev.ms(t:Lev)(l:List (PKey×Int)):Nat:=if t.nx<t.n then 1+(if knB l (t.a t.nx) (t.m t.nx)=true then 1 else 3*(1+t.c t.nx))+3*(t.tot-t.pre (t.nx+1))else 1
def stM(l:List (PKey×Int)):List Lev->Nat
 |[]=>0
 |t::L=>t.ms l+stM l L
theorem zk6(t:Lev){i j:Nat}(h:i<=j):t.pre i<=t.pre j:=by
 induction j with
 |zero=>
      obtain rfl:i=0:=by omega
      exact Nat.le_refl _
 |succ j ih=>
  by_cases e:i=j+1
  ·subst e;exact Nat.le_refl _
  ·have:=ih (by omega)
   show t.pre i<=t.pre j+(1+t.c j);omega
theorem kn_up(l:List (PKey×Int))(k:PKey)(v:Int){oa:Option Addr}{m:Nat}(h:knB l oa m=true):knB (upP k v l) oa m=true:=by
 unfold knB at h ⊢
 split
 ·rename_i a m
  dsimp only at h
  rw[ya2]
  split
  ·rfl
  ·exact h
 ·rfl
theorem ms_up(t:Lev)(l:List (PKey×Int))(k:PKey)(v:Int):t.ms (upP k v l)<=t.ms l:=by
 unfold Lev.ms
 split
 ·by_cases h:knB l (t.a t.nx) (t.m t.nx)=true
  ·rw[if_pos h,if_pos (kn_up l k v h)];exact Nat.le_refl _
  ·rw[if_neg h];split<;>omega
 ·exact Nat.le_refl _
theorem yf0(l:List (PKey×Int))(k:PKey)(v:Int):∀L,stM (upP k v l) L<=stM l L
 |[]=>Nat.le_refl _
 |t::L=>by have:=ms_up t l k v;have:=yf0 l k v L;unfold stM;omega
def Lev.next(t:Lev):Lev:={t with nx:=t.nx+1}
theorem ym8(t:Lev)(l:List (PKey×Int))(h:t.nx<t.n):t.next.ms l<t.ms l:=by
 have p:=zk6 t (i:=t.nx+1) (j:=t.n) (by omega)
 unfold Lev.ms
 rw[if_pos h]
 show(if t.nx+1<t.n then 1+(if knB l (t.a (t.nx+1)) (t.m (t.nx+1))=true then 1 else 3*(1+t.c (t.nx+1)))+3*(t.tot-t.pre (t.nx+1+1))else 1)<_
 split
 ·rename_i h2
  have p2:=zk6 t (i:=t.nx+1+1) (j:=t.n) (by omega)
  have e:t.pre (t.nx+1+1)=t.pre (t.nx+1)+(1+t.c (t.nx+1)):=rfl
  have e2:t.tot=t.pre t.n:=rfl
  split<;>split<;>omega
 ·split<;>omega
theorem ykf(u:Lev)(l:List (PKey×Int))(h:u.nx=0)(hn:0<u.n):u.ms l<=1+3*u.tot:=by
 unfold Lev.ms
 rw[h,if_pos hn,show u.pre (0+1)=u.pre 1 from rfl]
 have p:=zk6 u (i:=1) (j:=u.n) (by omega)
 have e:u.pre 1=1+u.c 0:=by show 0+(1+u.c 0)=_;omega
 have e2:u.tot=u.pre u.n:=rfl
 split<;>omega
theorem ym7(t u:Lev)(l:List (PKey×Int))(k:PKey)(v:Int)(h:t.nx<t.n)(h1:knB l (t.a t.nx) (t.m t.nx)=false)(h2:knB (upP k v l) (t.a t.nx) (t.m t.nx)=true)(hu:u.nx=0)(hn:0<u.n)(hc:u.tot=t.c t.nx):u.ms (upP k v l)+t.ms (upP k v l)<t.ms l:=by
 have:=ykf u (upP k v l) hu hn
 have e:t.ms (upP k v l)=1+1+3*(t.tot-t.pre (t.nx+1)):=by unfold Lev.ms;rw[if_pos h,if_pos h2]
 have e2:t.ms l=1+3*(1+t.c t.nx)+3*(t.tot-t.pre (t.nx+1)):=by unfold Lev.ms;rw[if_pos h,if_neg (by rw[h1];decide)]
 omega
theorem yke(t:Lev)(l:List (PKey×Int)):1<=t.ms l:=by unfold Lev.ms;split<;>omega
structure KnOk(w:World)(F:Nat->Prop)(l:List (PKey×Int))(L:List Lev):Prop where
 hF:∀y∈l,F y.1.1
 v:∀k v,lkP k l=some v->(v = -1/\∃t∈L,t.key=k)\/∃c:Nat,v=(c:Int)/\PC w F (some ⟨k.1,k.2.1,none⟩) k.2.2 c
theorem zzl{k:PKey}{v:Int}:∀{l:List (PKey×Int)} {y:PKey×Int},y∈upP k v l->y.1=k\/y∈l
 |[],y,h=>by simp only[upP,List.mem_singleton]at h;exact .inl (by rw[h])
 |x::l,y,h=>by
  unfold upP at h
  split at h
  ·rcases List.mem_cons.1 h with rfl|h
   ·exact .inl rfl
   ·exact .inr (List.mem_cons_of_mem _ h)
  ·rcases List.mem_cons.1 h with rfl|h
   ·exact .inr (List.mem_cons_self ..)
   ·exact(zzl h).imp id (List.mem_cons_of_mem _)
theorem KnOk.pop{w:World}{F:Nat->Prop}{C:Nat}{l:List (PKey×Int)}{t:Lev}{L:List Lev}(h:KnOk w F l (t::L))(ht:t.ok w F C):KnOk w F (upP t.key (t.tot:Int) l) L:=by
 refine⟨λy hy=>?_,λk v hk=>?_⟩
 ·rcases zzl hy with e|e
  ·rw[e];exact ht.hF
  ·exact h.hF y e
 ·rw[ya2]at hk
  split at hk
  ·rename_i e
   simp only[Option.some.injEq]at hk
   subst e
   exact .inr ⟨t.tot,hk.symm,ht.tpc⟩
  ·rename_i e
   rcases h.v k v hk with⟨rfl,t',ht',rfl⟩|h2
   ·rcases List.mem_cons.1 ht' with rfl|ht'
    ·exact absurd rfl e
    ·exact .inl ⟨rfl,t',ht',rfl⟩
   ·exact .inr h2
theorem KnOk.push{w:World}{F:Nat->Prop}{C:Nat}{l:List (PKey×Int)}{u:Lev}{L:List Lev}(h:KnOk w F l L)(hu:u.ok w F C):KnOk w F (upP u.key (-1) l) (u::L):=by
 refine⟨λy hy=>?_,λk v hk=>?_⟩
 ·rcases zzl hy with e|e
  ·rw[e];exact hu.hF
  ·exact h.hF y e
 ·rw[ya2]at hk
  split at hk
  ·rename_i e
   simp only[Option.some.injEq]at hk
   exact .inl ⟨hk.symm,u,List.mem_cons_self ..,e⟩
  ·rcases h.v k v hk with⟨rfl,t',ht',e⟩|h2
   ·exact .inl ⟨rfl,t',List.mem_cons_of_mem _ ht',e⟩
   ·exact .inr h2
theorem KnOk.next{w:World}{F:Nat->Prop}{l:List (PKey×Int)}{t:Lev}{L:List Lev}(h:KnOk w F l (t::L)):KnOk w F l (t.next::L):=by
 refine⟨h.hF,λk v hk=>?_⟩
 rcases h.v k v hk with⟨rfl,t',ht',e⟩|h2
 ·rcases List.mem_cons.1 ht' with rfl|ht'
  ·exact .inl ⟨rfl,t'.next,List.mem_cons_self ..,e⟩
  ·exact .inl ⟨rfl,t',List.mem_cons_of_mem _ ht',e⟩
 ·exact .inr h2
theorem KnOk.child{w:World}{F:Nat->Prop}{C:Nat}{l:List (PKey×Int)}{t:Lev}{L:List Lev}(h:KnOk w F l (t::L))(hL:∀x∈t::L,x.ok w F C)(hs:∀x∈t::L,t.tot<=x.tot)(hx:t.nx<t.n){b off m:Nat}{v:Int}(ha:t.a t.nx=some ⟨b,off,none⟩)(hm:t.m t.nx=m)(hk:lkP (b,off,m) l=some v):v=(t.c t.nx:Int):=by
 have pc:=(hL t (List.mem_cons_self ..)).pc t.nx hx
 rw[ha,hm]at pc
 rcases h.v _ v hk with⟨rfl,t',ht',e⟩|⟨c,rfl,hc⟩
 ·have p2:=(hL t' ht').tpc
  unfold Lev.key at e
  simp only[Prod.mk.injEq]at e
  rw[e.1,e.2.1,e.2.2]at p2
  have e1:=p2.det pc
  have e2:=hs t' ht'
  have e3:=zk6 t (i:=t.nx+1) (j:=t.n) (by omega)
  have e4:t.pre (t.nx+1)=t.pre t.nx+(1+t.c t.nx):=rfl
  have e5:t.tot=t.pre t.n:=rfl
  omega
 ·rw[hc.det pc]
theorem zh1.kept{w w':World}{b:Nat}{l:List (PKey×Int)}(h:zh1 w b l)(e:w'.heap[b]? = w.heap[b]?):zh1 w' b l:=by
 obtain⟨es,clock,h1,h2⟩:=h
 exact⟨es,clock,e.trans h1,h2⟩
theorem zh1.lt{w:World}{b:Nat}{l:List (PKey×Int)}(h:zh1 w b l):b<w.heap.size:=by
 obtain⟨es,clock,h1,h2⟩:=h
 exact(Array.getElem?_eq_some_iff.1 h1).1
theorem zur{w:World}{base e size g cap n bm:Nat}{xs:List Value}{l:List (PKey×Int)}(h:zd7 w base e size g cap n xs)(m:zh1 w bm l):g≠bm:=by
 rintro rfl
 obtain⟨cur,_,h2,_⟩:=h
 obtain⟨es,clock,m1,_⟩:=m
 rw[h2]at m1;cases m1
theorem yjx(l:List (PKey×Int)):∀L:List Lev,L.length<=stM l L
 |[]=>Nat.le_refl _
 |t::L=>by have:=yke t l;have:=yjx l L;simp only[List.length_cons];unfold stM;omega
theorem zf4(w:World)(o:Obj):(w.alloc o).heap[w.heap.size]? = some o:=by
 show(w.heap.push o)[w.heap.size]? = some o
 rw[Array.getElem?_push,if_pos rfl]
theorem zp9(w:World)(cs:Array Value)(t:TypeId)(j:Nat):(w.alloc (.cells cs t)).cell? ⟨w.heap.size,j,none⟩=cs[j]?:=by
 simp only[World.cell?,zf4,Option.isSome_none,Bool.false_eq_true,if_false]
structure Snc(w wr W:World)(x:Option Nat):Prop where
 below:Below w.heap.size w W
 same:∀q,q<wr.heap.size->some q≠x->W.heap[q]? = wr.heap[q]?
 size:wr.heap.size<=W.heap.size
theorem Snc.refl{w wr:World}(h:Below w.heap.size w wr)(x:Option Nat):Snc w wr wr x:=⟨h,λ_ _ _=>rfl,Nat.le_refl _⟩
theorem Snc.drew{w wr W:World}{x:Option Nat}(h:Snc w wr W x)(n:Nat):Snc w wr (W.drewN n) x:=⟨⟨h.below.os,h.below.tape,h.below.output,h.below.size,h.below.block⟩,h.same,h.size⟩
theorem Snc.alloc{w wr W:World}{x:Option Nat}(h:Snc w wr W x)(o:Obj):Snc w wr (W.alloc o) x:=
 ⟨h.below.alloc h.below.size o,λq hq hx=>(Below.heap_alloc W o q (Nat.lt_of_lt_of_le hq h.size)).trans (h.same q hq hx),by rw[World.size_alloc];have:=h.size;omega⟩
theorem Snc.grown{w wr W W2:World}{x:Option Nat}(h:Snc w wr W x)(hb:w.heap.size<=wr.heap.size){y:Option Nat}(hg:W.grownBy W2 y)(hy:∀k,y=some k->w.heap.size<=k)(hxy:∀k,y=some k->k<wr.heap.size->x=some k):Snc w wr W2 x:=
 ⟨h.below.grown hg h.below.size hy,λq hq hx=>(hg.block q (Nat.lt_of_lt_of_le hq h.size) (λe=>hx (hxy q e.symm hq).symm)).trans (h.same q hq hx),Nat.le_trans h.size hg.size⟩
theorem ynj(t:Lev)(L:List Lev):((lvX (t::L)).set (L.length*3+2) (.int .i64 ((t.pre t.nx:Int)+(1+(t.c t.nx:Int))))).set (L.length*3+1) (.int .i64 ((t.nx:Int)+1))=lvX (t.next::L):=by
 show((lvX L++t.cells).set _ _).set _ _=lvX L++t.next.cells
 have hl:=zjb L
 rw[List.set_append_right _ _ (by omega),List.set_append_right _ _ (by omega),hl,show L.length*3+2-L.length*3=2 by omega,show L.length*3+1-L.length*3=1 by omega]
 congr 1
theorem yj5(t:Lev):∀k,k<=t.pre k
 |0=>Nat.le_refl _
 |k+1=>by have:=yj5 t k;show k+1<=t.pre k+(1+t.c k);omega
def yiu(e:TypeId)(w:World)(F:Nat->Prop)(C bm:Nat)(gk:Nat)(v:Value)(W:World):Prop:=
 ∃(t:Lev) (L:List Lev) (g cap:Nat) (l:List (PKey×Int)),v=.slice (some ⟨g,0,none⟩) (L.length+1) cap/\zd7 W w.heap.size e 3 g cap (L.length+1) (lvX (t::L))/\zh1 W bm l/\w.heap.size<=bm/\Below w.heap.size w W/\
  KnOk w F l (t::L)/\(∀x∈t::L,x.ok w F C)/\(t::L).Pairwise (λx y=>x.tot<=y.tot)/\(∀x,(t::L).getLast? = some x->x.tot=C)/\stM l (t::L)<=gk/\gk<=3*C+2
theorem zv0{e:TypeId}{w wr:World}{F:Nat->Prop}{C bm gk g cap:Nat}{t:Lev}{L:List Lev}{l:List (PKey×Int)}(hstk:zd7 wr w.heap.size e 3 g cap (L.length+1) (lvX (t::L)))(hmap:zh1 wr bm l)(hbm:w.heap.size<=bm)(hbel:Below w.heap.size w wr)
  (hkn:KnOk w F l (t::L)) (hlv:∀x∈t::L,x.ok w F C) (hsrt:(t::L).Pairwise (λx y=>x.tot<=y.tot)) (hlast:∀x,(t::L).getLast? = some x->x.tot=C) (hms:stM l (t::L)<=gk) (hgk:gk<=3*C+2) (hlt:t.nx<t.n) {W:World} (hW:Snc w wr W none) :
  yiu e w F C bm (stM l (t.next::L)) (.slice (some ⟨g,0,none⟩) (L.length+1) cap) ((W.setCell ⟨g,L.length*3+2,none⟩ (.int .i64 ((t.pre t.nx:Int)+(1+(t.c t.nx:Int))))).setCell ⟨g,L.length*3+1,none⟩ (.int .i64 ((t.nx:Int)+1)))/\stM l (t.next::L)<gk:=by
 have hne:=zur hstk hmap
 have hk0:=hstk.kept (hW.same g hstk.lt (by simp))
 have hlen:=zjb (t::L)
 simp only[List.length_cons]at hlen
 have k1:=hk0.set (j:=L.length*3+2) (.int .i64 ((t.pre t.nx:Int)+(1+(t.c t.nx:Int)))) (by omega)
 have k2:=k1.set (j:=L.length*3+1) (.int .i64 ((t.nx:Int)+1)) (by rw[List.length_set];omega)
 rw[ynj]at k2
 have hg:w.heap.size<=g:=by obtain⟨_,h,_⟩:=hstk;exact h
 have hb:=(hW.below.setCell (p:=⟨g,L.length*3+2,none⟩) hg (.int .i64 ((t.pre t.nx:Int)+(1+(t.c t.nx:Int))))).setCell (p:=⟨g,L.length*3+1,none⟩) hg (.int .i64 ((t.nx:Int)+1))
 have hm:=ym8 t l hlt
 have e1:stM l (t::L)=t.ms l+stM l L:=rfl
 have e2:stM l (t.next::L)=t.next.ms l+stM l L:=rfl
 refine⟨⟨t.next,L,g,cap,l,rfl,k2,hmap.kept (((zbd hne.symm).trans (zbd hne.symm)).trans (hW.same bm hmap.lt (by simp))),hbm,hb,hkn.next,λx hx=>?_,List.pairwise_cons.2 ⟨λx hx=>(List.pairwise_cons.1 hsrt).1 x hx,(List.pairwise_cons.1 hsrt).2⟩,λx hx=>?_,Nat.le_refl _,by omega⟩,by omega⟩
 ·rcases List.mem_cons.1 hx with rfl|hx
  ·have:=hlv t (List.mem_cons_self ..)
   exact⟨this.n0,by show t.nx+1<=t.n;omega,this.hF,this.cell,this.pc,this.C⟩
  ·exact hlv x (List.mem_cons_of_mem _ hx)
 ·cases L with
  |nil=>
   simp only[List.getLast?_singleton,Option.some.injEq]at hx
   subst hx
   exact hlast t rfl
  |cons p L=>
   rw[List.getLast?_cons_cons]at hx
   exact hlast x (by rw[List.getLast?_cons_cons];exact hx)
theorem yom{e:TypeId}{w wr:World}{F:Nat->Prop}{C bm gk g cap cb co m q:Nat}{t:Lev}{L:List Lev}{l:List (PKey×Int)}(hstk:zd7 wr w.heap.size e 3 g cap (L.length+1) (lvX (t::L)))(hbm:w.heap.size<=bm)
  (hkn:KnOk w F l (t::L)) (hlv:∀x∈t::L,x.ok w F C) (hsrt:(t::L).Pairwise (λx y=>x.tot<=y.tot)) (hlast:∀x,(t::L).getLast? = some x->x.tot=C) (hms:stM l (t::L)<=gk) (hgk:gk<=3*C+2) (hlt:t.nx<t.n)
  (ha:t.a t.nx=some ⟨cb,co,none⟩) (hm:t.m t.nx=m) (h0:0<m) (hk:lkP (cb,co,m) l=none) {W2 W:World} (hmap:zh1 W2 bm (upP (cb,co,m) (-1) l)) (hne:g≠bm) (hbel:Below w.heap.size w W2) {v':Value} (hw:w.heap.size<=W2.heap.size)
  (ho:W.ownsRow w.heap.size e 3 v' (L.length+1+1) (lvX (t::L)++[.slice (some ⟨cb,co,none⟩) m q,.int .i64 0,.int .i64 0])) {o:Obj} (hg:(W2.alloc o).grownBy W (some g)) :
  ∃k,k<gk/\yiu e w F C bm k v' W:=by
 have pc:=(hlv t (List.mem_cons_self ..)).pc t.nx hlt
 have hC:t.c t.nx<=t.tot:=by
  have e3:=zk6 t (i:=t.nx+1) (j:=t.n) (by omega)
  have e4:t.pre (t.nx+1)=t.pre t.nx+(1+t.c t.nx):=rfl
  have e5:t.tot=t.pre t.n:=rfl
  omega
 have htC:=(hlv t (List.mem_cons_self ..)).C
 rw[ha,hm]at pc
 obtain⟨u,u1,u2,u3,u4,u5,u6,u7⟩:=ykj (cap:=q) pc h0
 have hu:=u7 C (by omega)
 have hkey:u.key=(cb,co,m):=by unfold Lev.key;rw[u1,u2,u3]
 have hcells:u.cells=[.slice (some ⟨cb,co,none⟩) m q,.int .i64 0,.int .i64 0]:=by
  unfold Lev.cells
  rw[u1,u2,u3,u4,u5];rfl
 have hbase:w.heap.size<=g:=by obtain⟨_,h,_⟩:=hstk;exact h
 obtain⟨g',cap',rfl,hs'⟩:=zd7.of_owns ho (by omega)
 rw[←hcells]at hs'
 have hkn0:knB l (t.a t.nx) (t.m t.nx)=false:=by
  rw[ha,hm]
  obtain⟨m',rfl⟩:∃m',m=m'+1:=⟨m-1,by omega⟩
  show(lkP (cb,co,m'+1) l).isSome=false
  rw[hk];rfl
 have hkn1:knB (upP (cb,co,m) (-1) l) (t.a t.nx) (t.m t.nx)=true:=by
  rw[ha,hm]
  obtain⟨m',rfl⟩:∃m',m=m'+1:=⟨m-1,by omega⟩
  show(lkP (cb,co,m'+1) (upP (cb,co,m'+1) (-1) l)).isSome=true
  rw[ya2,if_pos rfl];rfl
 have hM:=ym7 t u l (cb,co,m) (-1) hlt hkn0 hkn1 u5 (by rw[u3];exact h0) u6
 have hS:=yf0 l (cb,co,m) (-1) L
 have e1:stM l (t::L)=t.ms l+stM l L:=rfl
 have e2:stM (upP (cb,co,m) (-1) l) (u::t::L)=u.ms (upP (cb,co,m) (-1) l)+(t.ms (upP (cb,co,m) (-1) l)+stM (upP (cb,co,m) (-1) l) L):=rfl
 have hp:=hkn.push hu
 rw[hkey]at hp
 refine⟨stM (upP (cb,co,m) (-1) l) (u::t::L),by omega,u,t::L,g',cap',_,rfl,hs',hmap.kept ((hg.block bm (by rw[World.size_alloc];have:=hmap.lt;omega) (λz=>hne (by cases z;rfl))).trans (Below.heap_alloc W2 o bm hmap.lt)),hbm,(hbel.alloc hbel.size o).grown hg (by rw[World.size_alloc];omega) (λk z=>by cases z;exact hbase),hp,λx hx=>?_,List.pairwise_cons.2 ⟨λx hx=>?_,hsrt⟩,λx hx=>?_,Nat.le_refl _,by omega⟩
 ·rcases List.mem_cons.1 hx with rfl|hx
  ·exact hu
  ·exact hlv x hx
 ·rw[u6]
  rcases List.mem_cons.1 hx with rfl|hx
  ·exact hC
  ·exact Nat.le_trans hC ((List.pairwise_cons.1 hsrt).1 x hx)
 ·rw[List.getLast?_cons_cons]at hx
  exact hlast x hx
theorem zgu(b off n cap:Nat)(hn:0<n)(w:World):Calls Tryz.prog 124 #[.slice (some ⟨b,off,none⟩) n cap] w λe w'=>e=.returned (.agg #[.pointer (some ⟨b,off,none⟩),.int .i64 (n:Int)])/\w'=w.alloc (.cells #[.pointer (some ⟨b,off,none⟩),.int .i64 (n:Int)] 251):=by
 go_enter Tryz.func124,Tryz.ntmps124
 go_wp2
 simp[bodyPost,results,Tryz.results124,go_sem]
theorem zob(a b:Int)(ha:0<=a)(hb:0<=b)(ha2:a<=1000000000)(hb2:b<=1000000000)(w:World):Calls Tryz.prog 99 #[.int .i64 a,.int .i64 b] w λe w'=>e=.returned (.int .i64 (a+b))/\w'=w:=by
 go_enter Tryz.func99,Tryz.ntmps99
 go_wp2
 all_goals simp[bodyPost,results,Tryz.results99,go_sem]
noncomputable def kF1:Field:=match Tryz.prog.underlying 251 with|some (.struct fs)=>fs.getD 0 default|_=>default
noncomputable def kF2:Field:=match Tryz.prog.underlying 251 with|some (.struct fs)=>fs.getD 1 default|_=>default
theorem zuf:KeyT Tryz.prog 253 251 3 79 10 kF1 kF2:=⟨by kernel_rfl,by kernel_rfl,by kernel_rfl,⟨.i64,by kernel_rfl⟩,by kernel_rfl,by kernel_rfl,by kernel_rfl,by kernel_rfl,by kernel_rfl,by kernel_rfl,by kernel_rfl,by kernel_rfl⟩
theorem yds(w:World):(zeroValue 3).run Tryz.prog w=.ok (.int .i64 0) w:=ze8 (by kernel_rfl)
theorem ycg{w wr W:World}{F:Nat->Prop}{bm:Nat}{l:List (PKey×Int)}(hF:∀b,F b->b<w.heap.size/\Dyn.zar w b)(hbm:w.heap.size<=bm)(hw:w.heap.size<=wr.heap.size)(hW:Snc w wr W none)(hmap:zh1 wr bm l)(hl:∀y∈l,F y.1.1)(b off n:Nat)(hk:F b)(v:Int) :
  ∃W2,(Instr.mapUpdate 253 (.map (some bm)) (.agg #[.pointer (some ⟨b,off,none⟩),.int .i64 (n:Int)]) (.int .i64 v)).run Tryz.prog W=.ok () W2/\zh1 W2 bm (upP (b,off,n) v l)/\Snc w wr W2 (some bm)/\W.heap.size<=W2.heap.size:=by
 obtain⟨W2,k1,k2,k3,k4⟩:=z4m (w:=W) zuf (hmap.kept (hW.same _ hmap.lt (by simp))) (b,off,n) v ((hF _ hk).2.of (hW.below.block _ (hF _ hk).1)) (λy hy=>(hF _ (hl y hy)).2.of (hW.below.block _ (hF _ (hl y hy)).1))
 exact⟨W2,k1,k2,Snc.grown ⟨hW.below,λq hq _=>hW.same q hq (by simp),hW.size⟩ hw k3 (λk e=>by cases e;exact hbm) (λk e _=>e),by rw[k4];exact Nat.le_refl _⟩
theorem ych{w wr W:World}{F:Nat->Prop}{bm:Nat}{l:List (PKey×Int)}(hF:∀b,F b->b<w.heap.size/\Dyn.zar w b)(hW:Snc w wr W none)(hmap:zh1 wr bm l)(hl:∀y∈l,F y.1.1)(b off n:Nat)(hk:F b){r:Option Int}(hr:lkP (b,off,n) l=r) :
  (Instr.lookup 253 (.map (some bm)) (.agg #[.pointer (some ⟨b,off,none⟩),.int .i64 (n:Int)]) true).run Tryz.prog W=.ok (.tuple #[.int .i64 (r.getD 0),.bool r.isSome]) W:=by
 subst hr
 exact z50 (w:=W) zuf yds (hmap.kept (hW.same _ hmap.lt (by simp))) (b,off,n) ((hF _ hk).2.of (hW.below.block _ (hF _ hk).1)) (λy hy=>(hF _ (hl y hy)).2.of (hW.below.block _ (hF _ (hl y hy)).1))
theorem infoLv:(Tryz.prog.info? 255).map (λi=>(i.zero,i.size,i.bytes))=some (some (.agg #[.slice none 0 0,.int .i64 0,.int .i64 0]),3,40):=by kernel_rfl
set_option maxHeartbeats 16000000 in
theorem z6j(F:Nat->Prop)(b off n cap:Nat)(hn:0<n)(C:Nat)(hC:C<=100000000)(w:World)(hF:∀b,F b->b<w.heap.size/\Dyn.zar w b)(hpc:PC w F (some ⟨b,off,none⟩) n C):Calls Tryz.prog 100 #[.slice (some ⟨b,off,none⟩) n cap] w λe w'=>e=.returned (.int .i64 (C:Int))/\Below w.heap.size w w':=by
 have hFb:F b:=by
  cases hpc with
  |nil=>omega
  |row _ _ _ _ _ _ _ _ h=>exact h
 have hm0:zh1 (w.alloc (.map #[] 0)) w.heap.size []:=⟨#[],0,zf4 w _,rfl⟩
 have hb0:Below w.heap.size w (w.alloc (.map #[] 0)):=(Below.refl _ w).alloc (Nat.le_refl _) _
 obtain⟨W1,hU,hM1,hg1,hs1⟩:=ycg (w:=w) (wr:=w.alloc (.map #[] 0)) (W:=(w.alloc (.map #[] 0)).alloc (.cells #[.pointer (some ⟨b,off,none⟩),.int .i64 (n:Int)] 251)) hF (Nat.le_refl _) hb0.size ((Snc.refl hb0 none).alloc _) hm0 (λy hy=>by cases hy) b off n hFb (-1)
 have HM1:Hid (zh1 W1 w.heap.size (upP (b,off,n) (-1) [])):=hM1
 have HG1:Hid (Snc w (w.alloc (.map #[] 0)) W1 (some w.heap.size)):=hg1
 have HP:Hid (PC w F (some ⟨b,off,none⟩) n C):=hpc
 clear hM1 hg1 hpc hm0 hb0 hs1
 have hmm:=@run_makeMap Tryz.prog
 go_enter Tryz.func100,Tryz.ntmps100
 go_wp2_with (go_at_call 124;refine(zgu b off n cap hn _).mono ?_;rintro e w' ⟨rfl,rfl⟩)
 go_loopg [4] (3*C+2) (λgk v W=>yiu 255 w F C w.heap.size gk v W)
 case atStart=>
  obtain⟨t,t1,t2,t3,t4,t5,t6,t7⟩:=ykj (cap:=cap) HP.out hn
  have ht:=t7 C (Nat.le_refl _)
  have hsz:w.heap.size<W1.heap.size:=by have:=HG1.out.size;rw[World.size_alloc]at this;omega
  have hcells:t.cells=[.slice (some ⟨b,off,none⟩) n cap,.int .i64 0,.int .i64 0]:=by unfold Lev.cells;rw[t1,t2,t3,t4,t5];rfl
  have hk:=KnOk.push (w:=w) (F:=F) (C:=C) (l:=[]) (L:=[]) ⟨(λy hy=>by cases hy),(λk v h=>by cases h)⟩ ht
  have hkey:t.key=(b,off,n):=by unfold Lev.key;rw[t1,t2,t3]
  rw[hkey]at hk
  have hm:=ykf t (upP (b,off,n) (-1) []) t5 (by rw[t3];exact hn)
  refine⟨t,[],W1.heap.size,1,_,rfl,⟨_,by omega,zf4 W1 _,by decide,by decide,?_,?_,rfl⟩,HM1.out.kept (Below.heap_alloc W1 _ _ hsz),Nat.le_refl _,HG1.out.below.alloc (by omega) _,hk,λx hx=>?_,List.pairwise_cons.2 ⟨λx hx=>(by cases hx),.nil⟩,λx hx=>?_,?_,Nat.le_refl _⟩
  ·rfl
  ·show _=[]++t.cells
   rw[hcells];rfl
  ·rcases List.mem_cons.1 hx with rfl|hx
   ·exact ht
   ·cases hx
  ·simp only[List.getLast?_singleton,Option.some.injEq]at hx
   subst hx;exact t6
  ·show t.ms _+0<=_
   omega
 case round=>
  obtain⟨t,L,g,cap2,l,rfl,hstk,hmap,hbm,hbel,hkn,hlv,hsrt,hlast,hms,hgk⟩:=hrel
  have ht:=hlv t (List.mem_cons_self ..)
  have hx0:(lvX (t::L))[L.length*3]? = some (.slice (some ⟨t.b,t.off,none⟩) t.n t.cap):=by
   show(lvX L++t.cells)[L.length*3]? = _
   rw[List.getElem?_append_right (by rw[zjb];omega),zjb,Nat.sub_self];rfl
  have hx1:(lvX (t::L))[L.length*3+1]? = some (.int .i64 (t.nx:Int)):=by
   show(lvX L++t.cells)[L.length*3+1]? = _
   rw[List.getElem?_append_right (by rw[zjb];omega),zjb,show L.length*3+1-L.length*3=1 by omega];rfl
  have hx2:(lvX (t::L))[L.length*3+2]? = some (.int .i64 (t.pre t.nx:Int)):=by
   show(lvX L++t.cells)[L.length*3+2]? = _
   rw[List.getElem?_append_right (by rw[zjb];omega),zjb,show L.length*3+2-L.length*3=2 by omega];rfl
  have hcap:(L.length:Int)<=(cap2:Int):=by obtain⟨_,_,_,h,_⟩:=hstk;omega
  have hgl:g<wr.heap.size:=hstk.lt
  have c0:=hstk.cell hx0
  have c1:=hstk.cell hx1
  have c2:=hstk.cell hx2
  have z1:=hstk.froz (L.length*3+1)
  have z2:=hstk.froz (L.length*3+2)
  clear hx0 hx1 hx2
  have hLb:(L.length:Int)<=400000000:=by
   have:=yjx l (t::L)
   simp only[List.length_cons]at this
   omega
  obtain⟨d,hd⟩:∃d,d=L.length:=⟨_,rfl⟩
  have HS0:Hid (zd7 wr w.heap.size 255 3 g cap2 (L.length+1) (lvX (t::L))):=hstk
  rw[←hd]at hstk c0 c1 c2 z1 z2 hLb hcap ⊢
  have hd1:Hid (d=L.length):=hd
  clear hd
  by_cases hlt:t.nx<t.n
  ·have ci0:wr.cell? ⟨t.b,t.off+t.nx*11+10,none⟩=some (.slice (t.a t.nx) (t.m t.nx) (t.q t.nx)):=(hbel.cell (p:=⟨t.b,_,none⟩) (hF _ ht.hF).1).trans (ht.cell _ hlt)
   have hpcn:=ht.pc _ hlt
   have hdec:((t.nx:Int)==(t.n:Int))=false:=by simp;omega
   have hlt':(t.nx:Int)<(t.n:Int):=by omega
   have hcn:t.pre t.nx+(1+t.c t.nx)<=100000000:=by
    have e3:=zk6 t (i:=t.nx+1) (j:=t.n) (by omega)
    have e4:t.pre (t.nx+1)=t.pre t.nx+(1+t.c t.nx):=rfl
    have e5:t.tot=t.pre t.n:=rfl
    have:=ht.C
    omega
   have hnb:(t.nx:Int)<=100000000:=by have:=yj5 t t.nx;omega
   have HL:Hid (t.nx<t.n):=hlt
   have HP2:Hid (PC w F (t.a t.nx) (t.m t.nx) (t.c t.nx)):=hpcn
   clear hlt hpcn
   have hsnc:=Snc.refl hbel none
   by_cases hm:t.m t.nx=0
   ·rw[hm]at ci0
    have hc0:t.c t.nx=0:=by
     have:=HP2.out
     rw[hm]at this
     exact this.det (F':=F) (.nil _)
    have HM:Hid (t.m t.nx=0):=hm
    have HC0:Hid (t.c t.nx=0):=hc0
    have HC:Hid (wr.cell? ⟨t.b,t.off+t.nx*11+10,none⟩=some (.slice (t.a t.nx) 0 (t.q t.nx))):=ci0
    clear ci0 hm hc0
    go_wp2
    go_quiet (fail)
    have ci:=HC.out
    go_wp2
    go_quiet (fail)
    go_wp2
    have hs0:(0:Int)<=(t.pre t.nx:Int):=by omega
    have hs1':(t.pre t.nx:Int)<=100000000:=by omega
    go_region_with (go_at_call 99;refine(zob _ _ (by omega) (by omega) (by omega) (by omega) _).mono ?_;rintro e w' ⟨rfl,rfl⟩)
    all_goals
     go_wp2
     go_roundg (stM l (t.next::L))
     case measure=>exact(zv0 HS0.out hmap hbm hbel hkn hlv hsrt hlast hms hgk HL.out hsnc).2
     case rel=>
      have hd:=hd1.out
      subst hd
      have q:=λm=>(zv0 HS0.out hmap hbm hbel hkn hlv hsrt hlast hms hgk HL.out (hsnc.drew m)).1
      simp only[HC0.out,Int.natCast_zero,Int.add_zero]at q
      exact q _
   ·obtain⟨cb,co,m,hac,hmc,hm0⟩:∃cb co m,t.a t.nx=some ⟨cb,co,none⟩/\t.m t.nx=m/\0<m:=by
     have:=HP2.out
     revert this
     generalize t.a t.nx=oa
     generalize t.c t.nx=cc
     generalize hq:t.m t.nx=m
     intro hp
     cases hp with
     |nil=>exact absurd hq hm
     |row b off n _ _ _ _ h0=>exact⟨b,off,m,rfl,rfl,h0⟩
    have hFc:F cb:=by
     have:=HP2.out
     rw[hac,hmc]at this
     revert this
     generalize t.c t.nx=cc
     intro hp
     cases hp with
     |nil=>omega
     |row _ _ _ _ _ _ _ _ h=>exact h
    rw[hac,hmc]at ci0
    have HAC:Hid (t.a t.nx=some ⟨cb,co,none⟩):=hac
    have HMC:Hid (t.m t.nx=m):=hmc
    have HC:Hid (wr.cell? ⟨t.b,t.off+t.nx*11+10,none⟩=some (.slice (some ⟨cb,co,none⟩) m (t.q t.nx))):=ci0
    have hm0':(0:Int)<(m:Int):=by omega
    clear ci0 hm hac hmc
    cases hk:lkP (cb,co,m) l with
    |some v=>
     have hv:=hkn.child hlv (λx hx=>by
      rcases List.mem_cons.1 hx with rfl|hx
      ·exact Nat.le_refl _
      ·exact(List.pairwise_cons.1 hsrt).1 x hx) HL.out HAC.out HMC.out hk
     have hlook:=λ(W:World) (hW:Snc w wr W none)=>ych hF hW hmap hkn.hF cb co m hFc hk
     have HLK:Hid (∀W,Snc w wr W none->(Instr.lookup 253 (.map (some w.heap.size)) (.agg #[.pointer (some ⟨cb,co,none⟩),.int .i64 (m:Int)]) true).run Tryz.prog W=.ok (.tuple #[.int .i64 (t.c t.nx:Int),.bool true]) W):=λW hW=>by
      rw[hlook W hW,hv];rfl
     have hv1:((t.c t.nx:Int) == -1)=false:=by rw[beq_eq_false_iff_ne];omega
     have hvb:(t.c t.nx:Int)<=100000000:=by omega
     clear hlook hv hk
     go_wp2
     go_quiet (fail)
     generalize nq=n1
     have ci:=HC.out
     go_wp2
     go_quiet (fail)
     clear ci
     have hlk:=λm':Nat=>HLK.out ((wr.drewN m').alloc (.cells #[.pointer (some ⟨cb,co,none⟩),.int .i64 (m:Int)] 251)) ((hsnc.drew m').alloc _)
     go_wp2_with (go_at_call 124;refine(zgu cb co m _ hm0 _).mono ?_;rintro e w' ⟨rfl,rfl⟩)
     clear hlk
     have hS3:Snc w wr ((wr.drewN (n1+nq)).alloc (.cells #[.pointer (some ⟨cb,co,none⟩),.int .i64 (m:Int)] 251)) none:=(hsnc.drew _).alloc _
     generalize (wr.drewN (n1+nq)).alloc (.cells #[.pointer (some ⟨cb,co,none⟩),.int .i64 (m:Int)] 251)=W3 at hS3 ⊢
     have k1:=(Dyn.zgm (hS3.same g hgl (by simp)) (d*3+1)).trans c1
     have k2:=(Dyn.zgm (hS3.same g hgl (by simp)) (d*3+2)).trans c2
     have y1:=(World.frozen?_of_block (a:=⟨g,d*3+1,none⟩) (hS3.same g hgl (by simp))).trans z1
     have y2:=(World.frozen?_of_block (a:=⟨g,d*3+2,none⟩) (hS3.same g hgl (by simp))).trans z2
     clear c0 c1 c2 z1 z2
     have HS3:Hid (Snc w wr W3 none):=hS3
     clear hS3
     have hs0:(0:Int)<=(t.pre t.nx:Int):=by omega
     have hs1':(t.pre t.nx:Int)<=100000000:=by omega
     have hs2:(0:Int)<=(t.c t.nx:Int):=by omega
     have P1:=λW=>zob 1 (t.c t.nx:Int) (by omega) hs2 (by omega) (by omega) W
     have P2:=λW=>zob (t.pre t.nx:Int) (1+(t.c t.nx:Int)) hs0 (by omega) (by omega) (by omega) W
     have HP1:Hid (∀W,Calls Tryz.prog 99 #[.int .i64 1,.int .i64 (t.c t.nx:Int)] W λe w'=>e=.returned (.int .i64 (1+(t.c t.nx:Int)))/\w'=W):=P1
     have HP2':Hid (∀W,Calls Tryz.prog 99 #[.int .i64 (t.pre t.nx:Int),.int .i64 (1+(t.c t.nx:Int))] W λe w'=>e=.returned (.int .i64 ((t.pre t.nx:Int)+(1+(t.c t.nx:Int))))/\w'=W):=P2
     clear P1 P2
     go_region_with (go_at_call 99;(first|(with_reducible refine(HP1.out _).mono ?_)|(with_reducible refine(HP2'.out _).mono ?_));rintro e w' ⟨rfl,rfl⟩)
     all_goals
      go_wp2
      go_roundg (stM l (t.next::L))
      case measure=>exact(zv0 HS0.out hmap hbm hbel hkn hlv hsrt hlast hms hgk HL.out hsnc).2
      case rel=>
       have hd:=hd1.out
       subst hd
       exact(zv0 HS0.out hmap hbm hbel hkn hlv hsrt hlast hms hgk HL.out (HS3.out.drew _)).1
    |none=>
     have HK:Hid (lkP (cb,co,m) l=none):=hk
     have HLK:Hid (∀W,Snc w wr W none->(Instr.lookup 253 (.map (some w.heap.size)) (.agg #[.pointer (some ⟨cb,co,none⟩),.int .i64 (m:Int)]) true).run Tryz.prog W=.ok (.tuple #[.int .i64 0,.bool false]) W):=λW hW=>ych hF hW hmap hkn.hF cb co m hFc hk
     clear hk
     have HU2:∀m':Nat,∃W2,(Instr.mapUpdate 253 (.map (some w.heap.size)) (.agg #[.pointer (some ⟨cb,co,none⟩),.int .i64 (m:Int)]) (.int .i64 (-1))).run Tryz.prog (((wr.drewN m').alloc (.cells #[.pointer (some ⟨cb,co,none⟩),.int .i64 (m:Int)] 251)).alloc (.cells #[.pointer (some ⟨cb,co,none⟩),.int .i64 (m:Int)] 251))=.ok () W2/\zh1 W2 w.heap.size (upP (cb,co,m) (-1) l)/\Snc w wr W2 (some w.heap.size)/\_:=
      λm'=>ycg hF (Nat.le_refl _) hbel.size (((hsnc.drew m').alloc _).alloc _) hmap hkn.hF cb co m hFc (-1)
     obtain⟨fw,hfw⟩:=Classical.axiomOfChoice HU2
     have HFW:Hid (∀m',zh1 (fw m') w.heap.size (upP (cb,co,m) (-1) l)/\Snc w wr (fw m') (some w.heap.size)):=λm'=>⟨(hfw m').2.1,(hfw m').2.2.1⟩
     have HFU:=λm'=>(hfw m').1
     have HO:Hid (∀m',(fw m').ownsRow w.heap.size 255 3 (.slice (some ⟨g,0,none⟩) (d+1) cap2) (d+1) (lvX (t::L))):=λm'=>(hstk.kept ((HFW.out m').2.same g hstk.lt (λz=>zur hstk hmap (by cases z;rfl)))).owns
     clear hfw HU2
     obtain⟨i0,hi,hz0,hz1,hz2⟩:=info_parts infoLv
     go_wp2
     go_quiet (fail)
     have ci:=HC.out
     go_wp2
     go_quiet (fail)
     clear ci
     have hlk:=λm':Nat=>HLK.out ((wr.drewN m').alloc (.cells #[.pointer (some ⟨cb,co,none⟩),.int .i64 (m:Int)] 251)) ((hsnc.drew m').alloc _)
     go_wp2_with (first
      |(go_at_call 124;refine(zgu cb co m _ hm0 _).mono ?_;rintro e w' ⟨rfl,rfl⟩)
      |(at_builtin;refine wpList_append_own _ rfl _ _ 256 rfl w.heap.size 255 i0 (.agg #[.slice none 0 0,.int .i64 0,.int .i64 0]) 3 40 Tryz.underlying256 hi hz0 hz1 hz2 rfl (by decide) _ _ _ rfl ((HO.out _).alloc _) ⟨_,0,none⟩ 1 1 [.slice (some ⟨cb,co,none⟩) m (t.q t.nx),.int .i64 0,.int .i64 0] rfl rfl ?c1 ?c2 ?c3 ?c4 ?c5 ?_)
      |go_in)
     case c1=>
      intro j u hj
      rw[zhd,Nat.zero_add,zp9]
      simpa using hj
     case c2=>
      intro u hu
      simp at hu
      rcases hu with rfl|rfl<;>rfl
     case c3=>unfold maxLen;omega
     case c4=>omega
     case c5=>rw[World.size_alloc];exact Nat.le_succ_of_le (HFW.out _).2.below.size
     ·intro v' w1 hown' hgrow _
      obtain⟨k,hk1,hk2⟩:=yom (q:=t.q t.nx) HS0.out (Nat.le_refl _) hkn hlv hsrt hlast hms hgk HL.out HAC.out HMC.out hm0 HK.out (HFW.out _).1 (zur hstk hmap) (HFW.out _).2.below (HFW.out _).2.below.size (by rw[←hd1.out];exact hown') hgrow
      have HK1:Hid (k<gk):=hk1
      have HK2:Hid (yiu 255 w F C w.heap.size k v' w1):=hk2
      clear hk1 hk2 hown' hgrow HFU
      go_wp2
      go_roundg k
      case measure=>exact HK1.out
      case rel=>exact HK2.out
  ·have heq:t.nx=t.n:=by have:=ht.nx;omega
   have hdec:((t.nx:Int)==(t.n:Int))=true:=by simp[heq]
   have H1:Hid (t.nx=t.n):=heq
   have HU2:∀m':Nat,∃W2,(Instr.mapUpdate 253 (.map (some w.heap.size)) (.agg #[.pointer (some ⟨t.b,t.off,none⟩),.int .i64 (t.n:Int)]) (.int .i64 (t.pre t.nx:Int))).run Tryz.prog ((wr.drewN m').alloc (.cells #[.pointer (some ⟨t.b,t.off,none⟩),.int .i64 (t.n:Int)] 251))=.ok () W2/\zh1 W2 w.heap.size (upP t.key (t.pre t.nx:Int) l)/\Snc w wr W2 (some w.heap.size)/\_:=
    λm'=>ycg hF (Nat.le_refl _) hbel.size (((Snc.refl hbel none).drew m').alloc _) hmap hkn.hF t.b t.off t.n ht.hF _
   obtain⟨fw,hfw⟩:=Classical.axiomOfChoice HU2
   have HFW:Hid (∀m',zh1 (fw m') w.heap.size (upP t.key (t.pre t.nx:Int) l)/\Snc w wr (fw m') (some w.heap.size)):=λm'=>⟨(hfw m').2.1,(hfw m').2.2.1⟩
   have HFU:=λm'=>(hfw m').1
   clear hfw HU2 hlt heq
   by_cases hz:d=0
   ·have hz1:((d:Int)==0)=true:=by simp[hz]
    have hz2:Hid (d=0):=hz
    clear hz
    go_wp2
    go_quiet (fail)
    go_wp2_with (go_at_call 124;refine(zgu t.b t.off t.n t.cap ht.n0 _).mono ?_;rintro e w' ⟨rfl,rfl⟩)
    go_ret
    refine⟨?_,(HFW.out _).2.below⟩
    show Ending.returned (.int .i64 (t.pre t.nx:Int))=_
    have e1:L=[]:=List.length_eq_zero_iff.1 (hd1.out.symm.trans hz2.out)
    have e2:=hlast t (by rw[e1];rfl)
    rw[show t.pre t.nx=C by rw[H1.out];exact e2]
   ·have hz1:((d:Int)==0)=false:=by simp[hz]
    have hz2:Hid (d≠0):=hz
    clear hz
    go_wp2
    go_quiet (fail)
    go_wp2_with (go_at_call 124;refine(zgu t.b t.off t.n t.cap ht.n0 _).mono ?_;rintro e w' ⟨rfl,rfl⟩)
    go_roundg (stM (upP t.key (t.pre t.nx:Int) l) L)
    case measure=>
     have:=yf0 l t.key (t.pre t.nx:Int) L
     have:=yke t l
     have e:stM l (t::L)=t.ms l+stM l L:=rfl
     omega
    case rel=>
     cases L with
     |nil=>exact absurd hd1.out hz2.out
     |cons p L=>
      have hd2:d=L.length+1:=hd1.out
      subst hd2
      have et:t.pre t.nx=t.tot:=by rw[H1.out];rfl
      have hM2:=λm'=>(HFW.out m').1
      have hS2:=λm'=>(HFW.out m').2
      rw[et]at hM2 ⊢
      refine⟨p,L,g,cap2,_,rfl,(zd7.pop (ys:=t.cells) hstk rfl).kept ((hS2 _).same g hstk.lt (λz=>zur hstk hmap (by cases z;rfl))),hM2 _,Nat.le_refl _,(hS2 _).below,hkn.pop ht,λx hx=>hlv x (List.mem_cons_of_mem _ hx),(List.pairwise_cons.1 hsrt).2,λx hx=>hlast x hx,Nat.le_refl _,?_⟩
      have:=yf0 l t.key (t.tot:Int) (p::L)
      have e:stM l (t::p::L)=t.ms l+stM l (p::L):=rfl
      omega
theorem z6i(oa:Option Addr)(cap:Nat)(w:World):Calls Tryz.prog 100 #[.slice oa 0 cap] w λe w'=>e=.returned (.int .i64 0)/\Below w.heap.size w w':=by
 go_enter Tryz.func100,Tryz.ntmps100
 go_wp2
 go_ret
 exact⟨rfl,Below.refl _ _⟩
def zpy(w:World)(G:Nat->Prop)(b i:Nat)(d:Dyn.DC):Prop:=∃v,w.cell? ⟨b,i,none⟩=some v/\Dyn.DenC w G d v
theorem zpy.mono{w w':World}{G G':Nat->Prop}{b i:Nat}{d:Dyn.DC}(h:zpy w G b i d)(hb:w'.heap[b]? = w.heap[b]?)(hG:∀b,G b->G' b/\w'.heap[b]? = w.heap[b]?):zpy w' G' b i d:=by
 obtain⟨v,h1,h2⟩:=h
 exact⟨v,(Dyn.zgm hb i).trans h1,h2.mono hG⟩
theorem zfq{w:World}{cb co:Nat}{u:Value}{b i:Nat}(h:b≠cb\/i≠co):(w.setCell ⟨cb,co,none⟩ u).cell? ⟨b,i,none⟩=w.cell? ⟨b,i,none⟩:=
 World.cell?_setCell_other _ _ _ _ (λe=>by cases e;rcases h with h|h<;>exact h rfl)
theorem zjk{w:World}{cb co:Nat}{u v:Value}(h:w.cell? ⟨cb,co,none⟩=some v):(w.setCell ⟨cb,co,none⟩ u).cell? ⟨cb,co,none⟩=some u:=World.cell?_setCell_same _ _ _ h
theorem zpy.over{w:World}{G:Nat->Prop}{cb co:Nat}{u u':Value}{d0:Dyn.DC}(t0:TyD d0)(hc:w.cell? ⟨cb,co,none⟩=some u)(h0:Dyn.DenC w G d0 u)(h1:Dyn.DenC (w.setCell ⟨cb,co,none⟩ u') G d0 u'){b i:Nat}{d:Dyn.DC}(h:zpy w G b i d)(t:TyD d) :
  zpy (w.setCell ⟨cb,co,none⟩ u') G b i d:=by
 obtain⟨v,q1,q2⟩:=h
 by_cases e:b=cb/\i=co
 ·obtain⟨rfl,rfl⟩:=e
  rw[hc]at q1
  cases q1
  exact⟨u',zjk hc,ycb h0 t0 t q2 h1⟩
 ·exact⟨v,by rw[zfq (by omega)];exact q1,yhw t0 h0 h1 hc (zjk hc) (λb i _ h=>zfq h) (λ_ h=>h) q2 t⟩
structure Job where
 b:Nat
 off:Nat
 t:Shp
def Job.ptr(j:Job):Value:=.pointer (some ⟨j.b,j.off,none⟩)
def jbX:List Job->List Value
 |[]=>[]
 |j::L=>jbX L++[j.ptr]
theorem z0q:∀L:List Job,(jbX L).length=L.length
 |[]=>rfl
 |j::L=>by simp[jbX,z0q L]
def jbM:List Job->Nat
 |[]=>0
 |j::L=>1+cntS j.t+jbM L
theorem ykl:∀L:List Job,L.length<=jbM L
 |[]=>Nat.le_refl _
 |j::L=>by have:=ykl L;simp only[List.length_cons,jbM];omega
def dLt(s:Shp):Dyn.DC:=cCtr (toSh s).l
def Lo(B b:Nat):Prop:=B<=b/\b≠B+1
structure JobOk(B g:Nat)(W:World)(G:Nat->Prop)(j:Job):Prop where
 lo:Lo B j.b
 g:j.b≠g
 pl:Dyn.zar W j.b
 sh:ShB j.t
 l:zpy W G j.b (j.off+8) (dLt j.t)
 p:zpy W G j.b (j.off+9) (dPt j.t)
theorem plLt{W:World}{b:Nat}(h:Dyn.zar W b):b<W.heap.size:=by
 obtain⟨cs,t,h⟩:=h;exact(Array.getElem?_eq_some_iff.1 h).1
theorem ymv{W:World}{b:Nat}(h:Dyn.zar W b)(g o:Nat)(u:Value):Dyn.zar (W.setCell ⟨g,o,none⟩ u) b:=by
 by_cases e:b=g
 ·subst e
  obtain⟨cs,t,h⟩:=h
  exact⟨_,t,zcv h⟩
 ·exact h.of (zbd e)
structure GOk(F:Nat->Prop)(B g:Nat)(W:World)(G:Nat->Prop):Prop where
 pl:∀b,G b->Dyn.zar W b
 ng:∀b,G b->b≠g
 lo:∀b,G b->F b\/Lo B b
def BoxD(W:World)(G:Nat->Prop)(Bs:Nat)(s:Shp):Prop:=∀i,i<10->zpy W G Bs i ((cS (toSh s)).getD i default)
theorem cS_ty{s:Shp}(h:ShB s){i:Nat}(hi:i<10):TyD ((cS (toSh s)).getD i default):=by
 have:i=0\/i=1\/i=2\/i=3\/i=4\/i=5\/i=6\/i=7\/i=8\/i=9:=by omega
 rcases this with rfl|rfl|rfl|rfl|rfl|rfl|rfl|rfl|rfl|rfl
 ·exact .i _
 ·exact .i _
 ·exact .i _
 ·exact .i _
 ·exact .i _
 ·exact .i _
 ·exact .i _
 ·exact .i _
 ·exact .ctr _
 ·exact .prt _ h
structure CqI(F:Nat->Prop)(B g:Nat)(W:World)(G:Nat->Prop)(Bs:Nat)(s:Shp)(L:List Job):Prop where
 ok:GOk F B g W G
 lo:Lo B Bs
 ng:Bs≠g
 bp:Dyn.zar W Bs
 sh:ShB s
 box:BoxD W G Bs s
 job:∀j∈L,JobOk B g W G j
theorem CqI.grow{F:Nat->Prop}{B g g':Nat}{W W':World}{G:Nat->Prop}{Bs:Nat}{s:Shp}{L:List Job}(h:CqI F B g W G Bs s L)(hs:∀b,b<W.heap.size->b≠g->W'.heap[b]? = W.heap[b]?)(hg:g'=g\/W.heap.size<=g'):CqI F B g' W' G Bs s L:=by
 have k:∀b,Dyn.zar W b->b≠g->W'.heap[b]? = W.heap[b]?/\b≠g':=λb hb hn=>⟨hs b (plLt hb) hn,λe=>by have:=plLt hb;rcases hg with hg|hg<;>omega⟩
 have kG:∀b,G b->G b/\W'.heap[b]? = W.heap[b]?:=λb hb=>⟨hb,(k b (h.ok.pl b hb) (h.ok.ng b hb)).1⟩
 have kB:=k Bs h.bp h.ng
 refine⟨⟨λb hb=>(h.ok.pl b hb).of (kG b hb).2,λb hb=>(k b (h.ok.pl b hb) (h.ok.ng b hb)).2,h.ok.lo⟩,h.lo,kB.2,h.bp.of kB.1,h.sh,λi hi=>(h.box i hi).mono kB.1 kG,λj hj=>?_⟩
 have q:=h.job j hj
 have kj:=k j.b q.pl q.g
 exact⟨q.lo,kj.2,q.pl.of kj.1,q.sh,q.l.mono kj.1 kG,q.p.mono kj.1 kG⟩
theorem CqI.more{F:Nat->Prop}{B g:Nat}{W:World}{G G':Nat->Prop}{Bs:Nat}{s:Shp}{L:List Job}(h:CqI F B g W G Bs s L)(hG:∀b,G b->G' b)(hn:GOk F B g W G'):CqI F B g W G' Bs s L:=
 ⟨hn,h.lo,h.ng,h.bp,h.sh,λi hi=>(h.box i hi).mono rfl λb hb=>⟨hG b hb,rfl⟩,λj hj=>⟨(h.job j hj).lo,(h.job j hj).g,(h.job j hj).pl,(h.job j hj).sh,(h.job j hj).l.mono rfl λb hb=>⟨hG b hb,rfl⟩,(h.job j hj).p.mono rfl λb hb=>⟨hG b hb,rfl⟩⟩⟩
theorem CqI.set{F:Nat->Prop}{B g:Nat}{W:World}{G:Nat->Prop}{Bs:Nat}{s:Shp}{L:List Job}(h:CqI F B g W G Bs s L){cb co:Nat}{u u':Value}{n0:Nat}{f0:Nat->List Dyn.DC}{r0:Nat}(k0:Rk (.row n0 f0) r0)(hc:W.cell? ⟨cb,co,none⟩=some u)(h0:Dyn.DenC W G (.row n0 f0) u)(h2:Dyn.DenC W G (.row n0 f0) u') :
  CqI F B g (W.setCell ⟨cb,co,none⟩ u') G Bs s L:=by
 have t0:=k0.ty
 have h1:Dyn.DenC (W.setCell ⟨cb,co,none⟩ u') G (.row n0 f0) u':=yhv k0 hc h0 h2 (zjk hc) (λb i _ h=>zfq h)
 exact⟨⟨λb hb=>ymv (h.ok.pl b hb) _ _ _,h.ok.ng,h.ok.lo⟩,h.lo,h.ng,ymv h.bp _ _ _,h.sh,λi hi=>zpy.over t0 hc h0 h1 (h.box i hi) (cS_ty h.sh hi),λj hj=>⟨(h.job j hj).lo,(h.job j hj).g,ymv (h.job j hj).pl _ _ _,(h.job j hj).sh,zpy.over t0 hc h0 h1 (h.job j hj).l (.ctr _),zpy.over t0 hc h0 h1 (h.job j hj).p (.prt _ (h.job j hj).sh)⟩⟩
theorem CqI.sub{F:Nat->Prop}{B g:Nat}{W:World}{G:Nat->Prop}{Bs:Nat}{s:Shp}{L L':List Job}(h:CqI F B g W G Bs s L)(hL:∀j∈L',j∈L):CqI F B g W G Bs s L':=⟨h.ok,h.lo,h.ng,h.bp,h.sh,h.box,λj hj=>h.job j (hL j hj)⟩
theorem zkc(w:World)(a:Addr)(u:Value):(w.setCell a u).heap.size=w.heap.size:=by simp[World.setCell]
theorem CqI.ctr{F:Nat->Prop}{B g:Nat}{W W1:World}{G:Nat->Prop}{Bs:Nat}{s:Shp}{j:Job}{L:List Job}(h:CqI F B g W G Bs s (j::L))(hB:B+1<W.heap.size)(hg:g<W.heap.size)(hb:Below W.heap.size W W1){u':Value}
  (hu:Dyn.DenC W1 (λb=>G b\/(W.heap.size<=b/\b<W1.heap.size/\Dyn.zar W1 b)) (dLt j.t) u'):CqI F B g (W1.setCell ⟨j.b,j.off+8,none⟩ u') (λb=>G b\/(W.heap.size<=b/\b<W1.heap.size/\Dyn.zar W1 b)) Bs s (j::L):=by
 have q:=(h.grow (g':=g) (λb hb' _=>hb.block b hb') (.inl rfl)).more (G':=λb=>G b\/(W.heap.size<=b/\b<W1.heap.size/\Dyn.zar W1 b)) (λb hb=>.inl hb)
  ⟨λb hb'=>hb'.elim (λk=>(h.ok.pl b k).of (hb.block b (plLt (h.ok.pl b k)))) λk=>k.2.2,λb hb'=>hb'.elim (h.ok.ng b) λk=>by omega,λb hb'=>hb'.elim (h.ok.lo b) λk=>.inr ⟨by omega,by omega⟩⟩
 obtain⟨u,c1,c2⟩:=(q.job j (List.mem_cons_self ..)).l
 exact q.set (.ctr _) c1 c2 hu
theorem CqI.zero{F:Nat->Prop}{B g:Nat}{W:World}{G:Nat->Prop}{Bs:Nat}{s:Shp}{j:Job}{L:List Job}(h:CqI F B g W G Bs s (j::L))(hz:(toSh j.t).n=0):CqI F B g (W.setCell ⟨j.b,j.off+9,none⟩ (.slice none 0 0)) G Bs s L:=by
 have q:=h.job j (List.mem_cons_self ..)
 obtain⟨u,c1,c2⟩:=q.p
 refine(h.set (.prt _ q.sh) c1 c2 ?_).sub λi hi=>List.mem_cons_of_mem _ hi
 rw[hz];exact .nil _ _ _
theorem z2x{W:World}{G:Nat->Prop}{k:Int}{a b c:P2}{r:Int}{l:Ctr}{n:Nat}{add:Nat->Bool}{sub:Nat->Shp}{pv:Value}(h:Dyn.DenC W G (dPt (.mk k a b c r l n add sub)) pv):∃oa cap,pv=.slice oa n cap/\(0<n->∃(pb po:Nat) (gv:Nat->Nat->Value),oa=some ⟨pb,po,none⟩/\n<=cap/\G pb/\
  ∀i,i<n->∀j,j<11->W.cell? ⟨pb,po+i*11+j,none⟩=some (gv i j)/\Dyn.DenC W G ((zbv (add i) (toSh (sub i))).getD j default) (gv i j)):=by
 have h:Dyn.DenC W G (.row n λi=>zbv (add i) (toSh (sub i))) pv:=h
 generalize hf:(λi=>zbv (add i) (toSh (sub i)))=f at h
 cases h with
 |nil f oa cap=>exact⟨oa,cap,rfl,λh=>absurd h (Nat.lt_irrefl 0)⟩
 |row _ _ b off cap size g hk hF hc hd=>
  refine⟨_,cap,rfl,λhn=>⟨b,off,g,rfl,hk,hF,λi hi j hj=>?_⟩⟩
  have es:size=11:=by rw[←(hc 0 hn).1,←hf];rfl
  subst es
  refine⟨(hc i hi).2 j hj,?_⟩
  have:=hd i j hi hj
  rw[←hf]at this
  exact this
def kids(g2:Nat)(sub:Nat->Shp):Nat->List Job
 |0=>[]
 |k+1=>⟨g2,k*11+1,sub k⟩::kids g2 sub k
theorem z3j{g2:Nat}{sub:Nat->Shp}{j:Job}:∀{n:Nat},j∈kids g2 sub n->∃i,i<n/\j=⟨g2,i*11+1,sub i⟩
 |0,h=>by cases h
 |k+1,h=>by
  rcases List.mem_cons.1 h with rfl|h
  ·exact⟨k,by omega,rfl⟩
  ·obtain⟨i,hi,e⟩:=z3j h
   exact⟨i,by omega,e⟩
theorem z3k(g2:Nat)(sub:Nat->Shp):∀n,(kids g2 sub n).length=n
 |0=>rfl
 |k+1=>by show(kids g2 sub k).length+1=_;rw[z3k]
theorem ya7(g2:Nat)(sub:Nat->Shp)(L:List Job):∀n,jbM (kids g2 sub n++L)=sumC (λi=>1+cntS (sub i)) n+jbM L
 |0=>by show jbM L=0+jbM L;omega
 |k+1=>by
  show 1+cntS (sub k)+jbM (kids g2 sub k++L)=sumC _ k+(1+cntS (sub k))+jbM L
  rw[ya7 g2 sub L k];omega
theorem CqI.newRow{F:Nat->Prop}{B g:Nat}{W W3:World}{G:Nat->Prop}{Bs:Nat}{s:Shp}{j:Job}{L:List Job}(h:CqI F B g W G Bs s (j::L))(hB:B+1<W.heap.size)(hg:g<W.heap.size){k:Int}{a b c:P2}{r:Int}{l:Ctr}{n:Nat}{add:Nat->Bool}{sub:Nat->Shp}(ht:j.t=.mk k a b c r l n add sub)
  {gv:Nat->Nat->Value} (hv:∀i,i<n->∀q,q<11->Dyn.DenC W G ((zbv (add i) (toSh (sub i))).getD q default) (gv i q)) (hb:∀q,q<W.heap.size->W3.heap[q]? = W.heap[q]?) {g2:Nat} (h2:W.heap.size<=g2) (hp:Dyn.zar W3 g2) (hc:∀i,i<n->∀q,q<11->W3.cell? ⟨g2,i*11+q,none⟩=some (gv i q)) :
  CqI F B g W3 (λq=>G q\/q=g2) Bs s (kids g2 sub n++j::L)/\Dyn.DenC W3 (λq=>G q\/q=g2) (dPt j.t) (.slice (some ⟨g2,0,none⟩) n n):=by
 have q:=(h.grow (g':=g) (λb hb' _=>hb b hb') (.inl rfl)).more (G':=λb=>G b\/b=g2) (λb hb=>.inl hb)
  ⟨λb hb'=>hb'.elim (λk=>(h.ok.pl b k).of (hb b (plLt (h.ok.pl b k)))) λk=>k▸hp,λb hb'=>hb'.elim (h.ok.ng b) λk=>by omega,λb hb'=>hb'.elim (h.ok.lo b) λk=>.inr ⟨by omega,by omega⟩⟩
 have hm:∀{d:Dyn.DC} {v:Value},Dyn.DenC W G d v->Dyn.DenC W3 (λq=>G q\/q=g2) d v:=λk=>k.mono λb hb'=>⟨.inl hb',hb b (plLt (h.ok.pl b hb'))⟩
 have hsh:=(h.job j (List.mem_cons_self ..)).sh
 rw[ht]at hsh
 refine⟨⟨q.ok,q.lo,q.ng,q.bp,q.sh,q.box,λx hx=>?_⟩,?_⟩
 ·rcases List.mem_append.1 hx with hx|hx
  ·obtain⟨i,hi,rfl⟩:=z3j hx
   exact⟨⟨by show B<=g2;omega,by show g2≠B+1;omega⟩,by show g2≠g;omega,hp,hsh.2.2 i hi,⟨gv i 9,hc i hi 9 (by decide),hm (hv i hi 9 (by decide))⟩,⟨gv i 10,hc i hi 10 (by decide),hm (hv i hi 10 (by decide))⟩⟩
  ·exact q.job x hx
 ·rw[ht]
  exact .row n _ g2 0 n 11 gv (Nat.le_refl _) (.inr rfl) (λi hi=>⟨rfl,λq hq=>by rw[Nat.zero_add];exact hc i hi q hq⟩) λi q hi hq=>hm (hv i hi q hq)
theorem CqI.fin{F:Nat->Prop}{B g g':Nat}{W3 W4:World}{G:Nat->Prop}{Bs:Nat}{s:Shp}{j:Job}{K L:List Job}(h:CqI F B g W3 G Bs s (K++j::L))(hs:∀b,b<W3.heap.size->b≠g->W4.heap[b]? = W3.heap[b]?)(hg:g'=g\/W3.heap.size<=g'){v:Value}(hv:Dyn.DenC W3 G (dPt j.t) v) :
  CqI F B g' (W4.setCell ⟨j.b,j.off+9,none⟩ v) G Bs s (K++L):=by
 have q:=h.grow hs hg
 have qj:=q.job j (by simp)
 obtain⟨u,c1,c2⟩:=qj.p
 refine(q.set (.prt _ qj.sh) c1 c2 (hv.mono λb hb=>⟨hb,hs b (plLt (h.ok.pl b hb)) (h.ok.ng b hb)⟩)).sub λi hi=>?_
 rcases List.mem_append.1 hi with hi|hi
 ·exact List.mem_append_left _ hi
 ·exact List.mem_append_right _ (List.mem_cons_of_mem _ hi)
def yit(e sh:TypeId)(F:Nat->Prop)(w:World)(s:Shp)(gk:Nat)(v:Value)(W:World):Prop:=
 ∃(L:List Job) (g cap:Nat) (G:Nat->Prop),v=.slice (some ⟨g,0,none⟩) L.length cap/\zd7 W w.heap.size e 1 g cap L.length (jbX L)/\CqI F w.heap.size g W G w.heap.size s L/\Below w.heap.size w W/\g≠w.heap.size+1/\jbM L<=gk/\gk<=1+cntS s/\∃cs,W.heap[w.heap.size+1]? = some (.cells cs sh (0,0))/\cs.size=10
def PdC(x:Sh):Prop:=cntS (ofSh x)<=100000000
theorem zv1(s:Shp)(h:ShB s)(hc:cntS s<=100000000):Dyn.zav Tryz.prog 100 [dvL (toSh s)] (rI (cntS s:Int)):=
 yif Tryz.func100 (by kernel_rfl) (by kernel_rfl) rfl λw F us hF hd=>by
  match us,hd with
  |[u],hd=>
   obtain⟨oa,cap,rfl,pc⟩:=ycc s h (show Dyn.DenC w F (.row (toSh s).n (toSh s).f) u from hd.1)
   by_cases hz:(toSh s).n=0
   ·rw[hz]at pc ⊢
    have e:cntS s=0:=pc.det (F':=F) (.nil oa)
    rw[e]
    exact z6i oa cap w
   ·generalize hq:(toSh s).n=n at *
    have pc':=pc
    generalize hcc:cntS s=c at *
    cases pc' with
    |nil=>exact absurd rfl hz
    |row b off _ a m q c h0=>exact z6j F b off n cap h0 _ hc w hF pc
  |[],hd=>exact hd.elim
  |_::_::_,hd=>exact hd.2.elim
noncomputable def enCpE:Dyn.zb2:=(100,en1D (qAnd (qAnd qL PdS) PdC) λx=>rI (cntS (ofSh x):Int))
theorem yht:Dyn.zbu Tryz.prog enCpE:=zfe (zbl (zbl z5a)) λx h=>zc5 (args:=[dvL (toSh (ofSh x))]) ⟨SLe.dvL h.2.1.2,trivial⟩ (zv1 _ h.2.1.1 h.1)
noncomputable def tabCn:Dyn.Tabs:=Dyn.tabs tbF [enCpE] noD dtyS
theorem yfu:Dyn.zal Tryz.prog tabCn:=Dyn.zb0 zcy (List.forall_mem_cons.2 ⟨yht,λ_ h=>by cases h⟩)
noncomputable def cnO(s:Sh):Dyn.RO:=.side [PdC (obX s.n s.f),PdS (obX s.n s.f)] (.leaf (rI (z93 1 (cntS (ofSh (obX s.n s.f)):Int))))
theorem cn_O(s:Sh):(Dyn.dfun Tryz.prog tabCn Dyn.noLp 4 Tryz.f78 [dvS s]).ro Tryz.prog Tryz.f78.results=cnO s:=by kernel_rfl
theorem yh3(s:Shp)(h:ShB s)(hc:cntS s<=100000000):Dyn.zav Tryz.prog 78 [dvS (toSh s)] (rI (1+(cntS s:Int))):=by
 cases s with
 |nil=>exact h.elim
 |mk k a b c r l n add sub=>
  have e:ofSh (obX n λi=>zbv (add i) (toSh (sub i)))=zeq n add sub:=za7 (zeq n add sub)
  have hB:ShB (zeq n add sub):=⟨zex,h.2.1,h.2.2⟩
  have ec:cntS (zeq n add sub)=cntS (.mk k a b c r l n add sub):=rfl
  refine Dyn.zbs (lp:=Dyn.noLp) (fuel:=4) yfu mo Tryz.func78 (by kernel_rfl) (c:=zbx Tryz.f78.body) (by kernel_rfl) (λw0=>Dyn.zcl _ w0) (by kernel_rfl) (cn_O (toSh (.mk k a b c r l n add sub))) ?_
  refine⟨⟨by show cntS (ofSh (obX n λi=>zbv (add i) (toSh (sub i))))<=_;rw[e];exact hc,zl0 hB,trivial⟩,zby (congrArg rI ?_)⟩
  show z93 1 (cntS (ofSh (obX n λi=>zbv (add i) (toSh (sub i)))):Int)=_
  rw[e,ec]
  have hb:(cntS (.mk k a b c r l n add sub):Int)<=100000000:=by omega
  have h0:(0:Int)<=(cntS (.mk k a b c r l n add sub):Int):=by omega
  generalize (cntS (.mk k a b c r l n add sub):Int)=x at *
  unfold z93
  rw[W_id (x:=9223372036854775807-x) (by omega) (by omega),decide_eq_false (by omega),W_id (by omega) (by omega)];rfl
theorem zwl{P:Program}{w:World}{ops:Array Oper}{rest:List Oper}{o:Oper}{a:Act}{Q:Exit->Act->World->Prop}(hgd:o.guard=none)(d s:Operand)(dT sT:TypeId)
  (ho:o.op=.call {callee:=.builtin .copy,args:=#[d,s],argTypes:=#[dT,sT]}) (elem:TypeId) (hu:P.underlying dT=some (.slice elem)) (size:Nat) (hsz:(P.info? elem).map (·.size)=some size)
  (g n dCap:Nat) (ad:Addr) (sCap:Nat) (hd:a.eval d=.slice (some ⟨g,0,none⟩) n dCap) (hs:a.eval s=.slice (some ad) n sCap)
  (cur:Array Value) (t:TypeId) (hg:w.heap[g]? = some (.cells cur t (0,0))) (hcur:cur.size=n*size) (cs:List Value) (hn:cs.length=n*size)
  (hsrc:∀j v,cs[j]? = some v->w.cell? (ad.add j)=some v) (h1:∀v∈cs,v.oneCell'=true)
  (h:wpList P ops Q rest (a.put o.dst (goInt n)) (w.setRow g cs.toArray)):wpList P ops Q (o::rest) a w:=by
 refine wpList_plain hgd λK hK=>?_
 have hrun:(Builtin.copy_ #[dT,sT] o.type #[.slice (some ⟨g,0,none⟩) n dCap,.slice (some ad) n sCap]).run P w=.ok (goInt n) (w.setRow g cs.toArray):=by
  have hl:=run_loadCells_list (P:=P) w ad cs hsrc
  have hst:=run_storeCells_at P g 0 t cs 0 cur w hg (by omega) h1
  have e:(cur.toList.take (0+0)++cs++cur.toList.drop (0+0+cs.length)).toArray=cs.toArray:=by
   rw[List.drop_eq_nil_of_le (by rw[Array.length_toList];omega)];simp
  rw[e]at hst
  cases hq:P.info? elem with
  |none=>simp[hq]at hsz
  |some i=>
   have hi:i.size=size:=by simpa [hq]using hsz
   rw[hn]at hl
   simp[Builtin.copy_,run_underlying hu,Builtin.lenOf,Builtin.firstCells,sizeOf,typeInfo,hq,hi,hl,hst]
 unfold Oper.wp
 simp[execOp,ho,resolve,invoke,builtin,hd,hs,hrun,Result.andThen]
 exact hK _ _ h
theorem ycv{P:Program}{K:Nat}{fn:Func}(hf:P.funcs[K]? = some fn)(hb:fn.body.isNone=false)(hn:(fn.name=="runtime.NumGoroutine")=false){ds:List Dyn.DV}{us:List Value}{r:Dyn.RV}(h:Dyn.zav P K ds r)(w:World){F:Nat->Prop}(hF:∀b,F b->b<w.heap.size/\Dyn.zar w b)(hd:Dyn.zfn w F ds us) :
  Calls P K us.toArray w λe w'=>∃u,e=.returned u/\Dyn.DenR w' (λb=>F b\/(w.heap.size<=b/\b<w'.heap.size/\Dyn.zar w' b)) r u/\Below w.heap.size w w':=by
 have hr:(callFunc K us.toArray).run P w=.ok (.enter K us.toArray) w:=by
  unfold callFunc
  simp only[Sem.run_bind,run_program,Result.andThen_ok,hf,hn,hb]
  simp
 have:=h w F us hF hd
 rw[hr]at this
 exact this.2
noncomputable def pF1:Field:=match Tryz.prog.underlying 186 with|some (.struct fs)=>fs.getD 0 default|_=>default
noncomputable def pF2:Field:=match Tryz.prog.underlying 186 with|some (.struct fs)=>fs.getD 1 default|_=>default
theorem ycn:KeyT Tryz.prog 179 186 35 79 10 pF1 pF2:=⟨by kernel_rfl,by kernel_rfl,by kernel_rfl,⟨.i64,by kernel_rfl⟩,by kernel_rfl,by kernel_rfl,by kernel_rfl,by kernel_rfl,by kernel_rfl,by kernel_rfl,by kernel_rfl,by kernel_rfl⟩
theorem z4j(w:World):(zeroValue 35).run Tryz.prog w=.ok (.slice none 0 0) w:=ze8 (by kernel_rfl)
theorem ycm(b off n:Nat)(w:World):(Instr.lookup 179 (.map none) (.agg #[.pointer (some ⟨b,off,none⟩),.int .i64 (n:Int)]) true).run Tryz.prog w=.ok (.tuple #[.slice none 0 0,.bool false]) w:=by
 exact z51 ycn (z4j w) (b,off,n)
theorem yhj:(Tryz.prog.info? 79).map (λi=>(i.zero,i.size,i.bytes))=some (some (.agg #[.bool false,.int .i64 0,.int .i64 0,.int .i64 0,.int .i64 0,.int .i64 0,.int .i64 0,.int .i64 0,.int .i64 0,.slice none 0 0,.slice none 0 0]),11,120):=by kernel_rfl
theorem ynn:(Tryz.prog.info? 181).map (λi=>(i.zero,i.size,i.bytes))=some (some (.pointer none),1,8):=by kernel_rfl
def ydt:Array Value:=#[.bool false,.int .i64 0,.int .i64 0,.int .i64 0,.int .i64 0,.int .i64 0,.int .i64 0,.int .i64 0,.int .i64 0,.slice none 0 0,.slice none 0 0]
theorem ycl(n:Nat)(hn:n<=1000000000)(w:World):(Instr.makeSlice 35 (.int .i64 (n:Int)) (.int .i64 (n:Int))).run Tryz.prog w=.ok (.slice (some ⟨w.heap.size,0,none⟩) n n) (w.alloc (.cells (madeCells ydt (n*11)) 79)):=by
 obtain⟨i0,hi,hz0,hz1,hz2⟩:=info_parts yhj
 have h:=run_make (P:=Tryz.prog) w 35 79 i0 _ Tryz.underlying35 hi hz0 .i64 .i64 (n:Int) (n:Int) (by omega) (Int.le_refl _) (by rw[hz2];omega) (by omega)
 rw[Int.toNat_natCast,hz1]at h
 exact h
theorem z6k(e sh:TypeId){F:Nat->Prop}{w W1:World}(hF:∀b,F b->b<w.heap.size/\Dyn.zar w b){s:Shp}(hs:ShB s){cells:List Value}(hl:cells.length=10)(hd:Dyn.DenL w F (cS (toSh s)) cells){z:Array Value}(hz:z.size=10)
  (hb:Below ((w.alloc (.cells cells.toArray sh)).alloc (.cells z sh)).heap.size ((w.alloc (.cells cells.toArray sh)).alloc (.cells z sh)) W1):yit e sh F w s (1+cntS s) (.slice (some ⟨W1.heap.size,0,none⟩) 1 1) (W1.alloc (.cells #[.pointer (some ⟨w.heap.size,0,none⟩)] e)):=by
 have sz2:((w.alloc (.cells cells.toArray sh)).alloc (.cells z sh)).heap.size=w.heap.size+2:=by rw[World.size_alloc,World.size_alloc]
 have hW:w.heap.size+2<=W1.heap.size:=by have:=hb.size;omega
 have old:∀q,q<W1.heap.size->(W1.alloc (.cells #[.pointer (some ⟨w.heap.size,0,none⟩)] e)).heap[q]? = W1.heap[q]?:=λq hq=>Below.heap_alloc W1 _ q hq
 have h1:(W1.alloc (.cells #[.pointer (some ⟨w.heap.size,0,none⟩)] e)).heap[w.heap.size]? = some (.cells cells.toArray sh (0,0)):=by
  rw[old _ (by omega),hb.block _ (by omega),Below.heap_alloc _ _ _ (by rw[World.size_alloc];omega)]
  exact zf4 w _
 have h2:(W1.alloc (.cells #[.pointer (some ⟨w.heap.size,0,none⟩)] e)).heap[w.heap.size+1]? = some (.cells z sh (0,0)):=by
  rw[old _ (by omega),hb.block _ (by omega)]
  have:=zf4 (w.alloc (.cells cells.toArray sh)) (.cells z sh)
  rw[World.size_alloc]at this
  exact this
 have h0:∀q,q<w.heap.size->(W1.alloc (.cells #[.pointer (some ⟨w.heap.size,0,none⟩)] e)).heap[q]? = w.heap[q]?:=λq hq=>by
  rw[old _ (by omega),hb.block _ (by omega),Below.heap_alloc _ _ _ (by rw[World.size_alloc];omega),Below.heap_alloc _ _ _ hq]
 have box:BoxD (W1.alloc (.cells #[.pointer (some ⟨w.heap.size,0,none⟩)] e)) F w.heap.size s:=λi hi=>by
  have e1:(cS (toSh s))[i]? = some ((cS (toSh s)).getD i default):=by
   rw[List.getD_eq_getElem?_getD]
   cases q:(cS (toSh s))[i]? with
   |none=>have:=List.getElem?_eq_none_iff.1 q;have e:(cS (toSh s)).length=10:=rfl;omega
   |some d=>rfl
  obtain⟨u,u1,u2⟩:=Dyn.DenL.at_ hd i _ e1
  refine⟨u,?_,u2.mono λb hb'=>⟨hb',h0 b (hF b hb').1⟩⟩
  simp only[World.cell?,h1,Option.isSome_none,Bool.false_eq_true,if_false]
  simpa using u1
 have hbw:Below w.heap.size w (W1.alloc (.cells #[.pointer (some ⟨w.heap.size,0,none⟩)] e)):=
  ((((Below.refl _ w).alloc (Nat.le_refl _) _).alloc (by rw[World.size_alloc];omega) _).trans (hb.mono (by omega))).alloc (by omega) _
 refine⟨[⟨w.heap.size,0,s⟩],W1.heap.size,1,F,rfl,⟨_,by omega,zf4 W1 _,Nat.le_refl _,by decide,rfl,rfl,rfl⟩,
  ⟨⟨λb hb'=>(hF b hb').2.of (h0 b (hF b hb').1),λb hb'=>by have:=(hF b hb').1;omega,λb hb'=>.inl hb'⟩,⟨Nat.le_refl _,by omega⟩,by omega,⟨_,_,h1⟩,hs,box,λj hj=>?_⟩,hbw,by omega,by show 1+cntS s+0<=_;omega,Nat.le_refl _,_,h2,hz⟩
 rcases List.mem_cons.1 hj with rfl|hj
 ·refine⟨⟨Nat.le_refl _,?_⟩,?_,⟨_,_,h1⟩,hs,box 8 (by decide),box 9 (by decide)⟩
  ·show w.heap.size≠w.heap.size+1;omega
  ·show w.heap.size≠W1.heap.size;omega
 ·cases hj
theorem yh6{F:Nat->Prop}{w W:World}(hF:∀b,F b->b<w.heap.size/\Dyn.zar w b){s:Shp}{g:Nat}{G:Nat->Prop}{L:List Job}(h:CqI F w.heap.size g W G w.heap.size s L){cells:List Value}(hl:cells.length=10)(hc:∀j u,cells[j]? = some u->W.cell? ⟨w.heap.size,j,none⟩=some u){W':World}(hW:∀q,q≠w.heap.size+1->W'.heap[q]? = W.heap[q]?) :
  Dyn.DenR W' (λb=>F b\/(w.heap.size<=b/\b<W'.heap.size/\Dyn.zar W' b)) (.val (dvS (toSh s))) (.agg cells.toArray):=by
 have e10:(cS (toSh s)).length=10:=rfl
 refine⟨_,rfl,Dyn.DenL.of (by rw[e10];simpa using hl) λj d hj=>?_⟩
 have hj10:j<10:=by rw[←e10];exact(List.getElem?_eq_some_iff.1 hj).1
 obtain⟨v,v1,v2⟩:=h.box j hj10
 have ed:(cS (toSh s)).getD j default=d:=by rw[List.getD_eq_getElem?_getD,hj];rfl
 rw[ed]at v2
 have hu:cells[j]? = some (cells[j]'(by omega)):=List.getElem?_eq_getElem (by omega)
 have:=hc j _ hu
 rw[v1]at this
 refine⟨v,by rw[List.toList_toArray,hu,this],v2.mono λb hb=>?_⟩
 have hne:b≠w.heap.size+1:=by
  rcases h.ok.lo b hb with k|k
  ·have:=(hF b k).1;omega
  ·exact k.2
 have hp:Dyn.zar W' b:=(h.ok.pl b hb).of (hW b hne)
 refine⟨?_,hW b hne⟩
 rcases h.ok.lo b hb with k|k
 ·exact .inl k
 ·exact .inr ⟨k.1,plLt hp,hp⟩
theorem yh5{w W:World}{sh:TypeId}(h:∃cs,W.heap[w.heap.size+1]? = some (.cells cs sh (0,0))/\cs.size=10)(i:Nat)(hi:i<10):∃x,W.cell? ⟨w.heap.size+1,i,none⟩=some x:=by
 obtain⟨cs,h1,h2⟩:=h
 exact⟨cs[i]'(by omega),by simp[World.cell?,h1,h2,hi]⟩
theorem yh4{W:World}{b:Nat}{v0 v1 v2 v3 v4 v5 v6 v7 v8 v9:Value}(h0:W.cell? ⟨b,0,none⟩=some v0)(h1:W.cell? ⟨b,1,none⟩=some v1)(h2:W.cell? ⟨b,2,none⟩=some v2)(h3:W.cell? ⟨b,3,none⟩=some v3)(h4:W.cell? ⟨b,4,none⟩=some v4)
  (h5:W.cell? ⟨b,5,none⟩=some v5) (h6:W.cell? ⟨b,6,none⟩=some v6) (h7:W.cell? ⟨b,7,none⟩=some v7) (h8:W.cell? ⟨b,8,none⟩=some v8) (h9:W.cell? ⟨b,9,none⟩=some v9):∀j u,[v0,v1,v2,v3,v4,v5,v6,v7,v8,v9][j]? = some u->W.cell? ⟨b,j,none⟩=some u:=by
 intro j u hj
 have:j=0\/j=1\/j=2\/j=3\/j=4\/j=5\/j=6\/j=7\/j=8\/j=9:=by
  have:=(List.getElem?_eq_some_iff.1 hj).1
  simp only[List.length_cons,List.length_nil]at this;omega
 rcases this with rfl|rfl|rfl|rfl|rfl|rfl|rfl|rfl|rfl|rfl<;>cases hj<;>assumption
theorem hide{p:Prop}(h:p):Hid p:=h
theorem z2v{W:World}{b:Nat}(h:Dyn.zar W b)(o:Nat):W.frozen? ⟨b,o,none⟩=false:=by
 obtain⟨cs,t,h⟩:=h;simp[World.frozen?,h]
def shC(k:Int)(a b c:P2)(r:Int)(lv pv:Value):List Value:=[.int .i64 k,.int .i64 a.x,.int .i64 a.y,.int .i64 b.x,.int .i64 b.y,.int .i64 c.x,.int .i64 c.y,.int .i64 r,lv,pv]
theorem z9h{w:World}{F:Nat->Prop}{k:Int}{a b c:P2}{r:Int}{l:Ctr}{n:Nat}{add:Nat->Bool}{sub:Nat->Shp}{lv pv:Value}(hl:Dyn.DenC w F (cCtr l) lv)(hp:Dyn.DenC w F (dPt (.mk k a b c r l n add sub)) pv):Dyn.DenL w F (cS (toSh (.mk k a b c r l n add sub))) (shC k a b c r lv pv):=
 ⟨.p _ rfl,.p _ rfl,.p _ rfl,.p _ rfl,.p _ rfl,.p _ rfl,.p _ rfl,.p _ rfl,hl,hp,trivial⟩
theorem z6l{k:Int}{a b c:P2}{r:Int}{l:Ctr}{n:Nat}{add:Nat->Bool}{sub:Nat->Shp}(hs:ShB (.mk k a b c r l n add sub))(hcn:cntS (.mk k a b c r l n add sub)<=100000000){w:World}{F:Nat->Prop}(hF:∀b,F b->b<w.heap.size/\Dyn.zar w b){lv pv:Value}
  (hl:Dyn.DenC w F (cCtr l) lv) (hp:Dyn.DenC w F (dPt (.mk k a b c r l n add sub)) pv) {W:World} (hW:Below w.heap.size w W) :
  Calls Tryz.prog 78 #[.agg (shC k a b c r lv pv).toArray] W λe w'=>e=.returned (.int .i64 (1+(cntS (.mk k a b c r l n add sub):Int)))/\Below W.heap.size W w':=by
 have hm:∀b,F b->F b/\W.heap[b]? = w.heap[b]?:=λb hb=>⟨hb,hW.block b (hF b hb).1⟩
 refine(ycv (us:=[.agg (shC k a b c r lv pv).toArray]) Tryz.func78 (by kernel_rfl) (by kernel_rfl) (yh3 _ hs hcn) W (F:=F) (λb hb=>⟨by have:=(hF b hb).1;have:=hW.size;omega,(hF b hb).2.of (hm b hb).2⟩) ⟨⟨_,rfl,z9h (r:=r) (hl.mono hm) (hp.mono hm)⟩,trivial⟩).mono ?_
 rintro e w' ⟨u,rfl,hu,hb⟩
 refine⟨?_,hb⟩
 have e:u=_:=zhf hu
 rw[e]
theorem ybd:(Tryz.prog.info? 79).map (·.size)=some 11:=by kernel_rfl
theorem cq_row{F:Nat->Prop}{B g:Nat}{W:World}{G:Nat->Prop}{Bs:Nat}{s:Shp}{jb jo:Nat}{k:Int}{a b c:P2}{r:Int}{l:Ctr}{n:Nat}{add:Nat->Bool}{sub:Nat->Shp}{L:List Job}(h:CqI F B g W G Bs s (⟨jb,jo,.mk k a b c r l n add sub⟩::L)){pb po pc:Nat}(hc:W.cell? ⟨jb,jo+9,none⟩=some (.slice (some ⟨pb,po,none⟩) n pc))(hn:0<n) :
  ∃(gv:Nat->Nat->Value) (CS:List Value),CS.length=n*11/\(∀i,i<n->∀q,q<11->CS[i*11+q]? = some (gv i q))/\(∀v∈CS,v.oneCell'=true)/\(∀j v,CS[j]? = some v->W.cell? ⟨pb,po+j,none⟩=some v)/\(∀i,i<n->∀q,q<11->Dyn.DenC W G ((zbv (add i) (toSh (sub i))).getD q default) (gv i q))/\pb<W.heap.size:=by
 obtain⟨pv,p1,p2⟩:=(h.job _ (List.mem_cons_self ..)).p
 have e:pv=.slice (some ⟨pb,po,none⟩) n pc:=Option.some.inj (p1.symm.trans hc)
 subst e
 obtain⟨oa,cap,e,q⟩:=z2x p2
 obtain⟨pb',po',gv,rfl,_,hG,hv⟩:=q hn
 cases e
 have dv:∀j,j<n*11->j/11<n/\j%11<11/\j/11*11+j%11=j:=λj hj=>⟨by omega,by omega,by omega⟩
 refine⟨gv,(List.range (n*11)).map λj=>gv (j/11) (j%11),by simp,λi hi q hq=>?_,λv hv'=>?_,λj v hj=>?_,λi hi q hq=>(hv i hi q hq).2,plLt (h.ok.pl pb hG)⟩
 ·rw[List.getElem?_map,List.getElem?_range (by omega)]
  show some (gv ((i*11+q)/11) ((i*11+q)%11))=_
  rw[show(i*11+q)/11=i by omega,show(i*11+q)%11=q by omega]
 ·simp only[List.mem_map,List.mem_range]at hv'
  obtain⟨j,hj,rfl⟩:=hv'
  exact z5p (hv _ (dv j hj).1 _ (dv j hj).2.1).2
 ·by_cases hl:j<n*11
  ·rw[List.getElem?_map,List.getElem?_range hl]at hj
   have hj':=Option.some.inj hj
   have z:=(hv _ (dv j hl).1 _ (dv j hl).2.1).1
   rw[Nat.add_assoc,(dv j hl).2.2]at z
   exact z.trans (congrArg some hj')
  ·rw[List.getElem?_eq_none (by simp;omega)]at hj;cases hj
theorem yol{e sh:TypeId}{F:Nat->Prop}{w wr w1:World}{s:Shp}{gk g cap d:Nat}{G:Nat->Prop}{jb jo:Nat}{k:Int}{a b c:P2}{r:Int}{l:Ctr}{n:Nat}{add:Nat->Bool}{sub:Nat->Shp}{L:List Job}{u:Value}
  (HK:zd7 wr w.heap.size e 1 g cap (L.length+1) (jbX (⟨jb,jo,.mk k a b c r l n add sub⟩::L))) (HI:CqI F w.heap.size g wr G w.heap.size s (⟨jb,jo,.mk k a b c r l n add sub⟩::L)) (HB:Below w.heap.size w wr) (HG:g≠w.heap.size+1/\jbM (⟨jb,jo,.mk k a b c r l n add sub⟩::L)<=gk/\gk<=1+cntS s)
  (HR:∃cs,wr.heap[w.heap.size+1]? = some (.cells cs sh (0,0))/\cs.size=10) (HD:d=L.length) (HB1:Below wr.heap.size wr w1) (HU:Dyn.DenC w1 (λb=>G b\/(wr.heap.size<=b/\b<w1.heap.size/\Dyn.zar w1 b)) (cCtr l) u) (HZ:n=0) :
  yit e sh F w s (jbM L) (.slice (some ⟨g,0,none⟩) d cap) ((w1.setCell ⟨jb,jo+8,none⟩ u).setCell ⟨jb,jo+9,none⟩ (.slice none 0 0)):=by
 subst HD
 obtain⟨cs,hr1,hr2⟩:=HR
 have hrl:w.heap.size+1<wr.heap.size:=(Array.getElem?_eq_some_iff.1 hr1).1
 have hgl:=HK.lt
 have hj:=HI.job _ (List.mem_cons_self ..)
 have i1:=(CqI.ctr HI hrl hgl HB1 HU).zero HZ
 have kp:∀q,q≠jb->q<wr.heap.size->((w1.setCell ⟨jb,jo+8,none⟩ u).setCell ⟨jb,jo+9,none⟩ (.slice none 0 0)).heap[q]? = wr.heap[q]?:=λq hq hl=>((zbd hq).trans (zbd hq)).trans (HB1.block q hl)
 have hb:Below w.heap.size w ((w1.setCell ⟨jb,jo+8,none⟩ u).setCell ⟨jb,jo+9,none⟩ (.slice none 0 0)):=((HB.trans (HB1.mono HB.size)).setCell (p:=⟨jb,_,none⟩) hj.lo.1 _).setCell (p:=⟨jb,_,none⟩) hj.lo.1 _
 refine⟨L,g,cap,_,rfl,(HK.pop (ys:=[Job.ptr _]) rfl).kept (kp g (λe=>hj.g e.symm) hgl),i1,hb,HG.1,Nat.le_refl _,?_,cs,(kp _ (λe=>hj.lo.2 e.symm) hrl).trans hr1,hr2⟩
 have e:jbM (⟨jb,jo,.mk k a b c r l n add sub⟩::L)=1+cntS (.mk k a b c r l n add sub)+jbM L:=rfl
 have:=HG.2
 omega
theorem ten_of:∀l:List Value,l.length=10->∃x0 x1 x2 x3 x4 x5 x6 x7 x8 x9,l=[x0,x1,x2,x3,x4,x5,x6,x7,x8,x9]
 |[x0,x1,x2,x3,x4,x5,x6,x7,x8,x9],_=>⟨x0,x1,x2,x3,x4,x5,x6,x7,x8,x9,rfl⟩
theorem ylj{w W:World}{sh:TypeId}(h:∃cs,W.heap[w.heap.size+1]? = some (.cells cs sh (0,0))/\cs.size=10)(v0 v1 v2 v3 v4 v5 v6 v7 v8 v9:Value) :
  ((((((((((W.setCell ⟨w.heap.size+1,0,none⟩ v0).setCell ⟨w.heap.size+1,1,none⟩ v1).setCell ⟨w.heap.size+1,2,none⟩ v2).setCell ⟨w.heap.size+1,3,none⟩ v3).setCell ⟨w.heap.size+1,4,none⟩ v4).setCell ⟨w.heap.size+1,5,none⟩ v5).setCell ⟨w.heap.size+1,6,none⟩ v6).setCell ⟨w.heap.size+1,7,none⟩ v7).setCell ⟨w.heap.size+1,8,none⟩ v8).setCell ⟨w.heap.size+1,9,none⟩ v9).heap[w.heap.size+1]? = some (.cells #[v0,v1,v2,v3,v4,v5,v6,v7,v8,v9] sh (0,0)):=by
 obtain⟨cs,h1,h2⟩:=h
 obtain⟨x0,x1,x2,x3,x4,x5,x6,x7,x8,x9,e⟩:=ten_of cs.toList (by simpa using h2)
 have ec:cs = #[x0,x1,x2,x3,x4,x5,x6,x7,x8,x9]:=by rw[←Array.toArray_toList (xs:=cs),e]
 subst ec
 rw[zcv (zcv (zcv (zcv (zcv (zcv (zcv (zcv (zcv (zcv h1)))))))))]
 simp
theorem ylk{W:World}{b q:Nat}(hq:q≠b)(v0 v1 v2 v3 v4 v5 v6 v7 v8 v9:Value):((((((((((W.setCell ⟨b,0,none⟩ v0).setCell ⟨b,1,none⟩ v1).setCell ⟨b,2,none⟩ v2).setCell ⟨b,3,none⟩ v3).setCell ⟨b,4,none⟩ v4).setCell ⟨b,5,none⟩ v5).setCell ⟨b,6,none⟩ v6).setCell ⟨b,7,none⟩ v7).setCell ⟨b,8,none⟩ v8).setCell ⟨b,9,none⟩ v9).heap[q]? = W.heap[q]?:=by
 rw[zbd hq,zbd hq,zbd hq,zbd hq,zbd hq,zbd hq,zbd hq,zbd hq,zbd hq,zbd hq]
theorem z7r{B:Nat}{w W:World}{b:Nat}(h:Below B w W)(hb:B<=b)(v0 v1 v2 v3 v4 v5 v6 v7 v8 v9:Value):Below B w ((((((((((W.setCell ⟨b,0,none⟩ v0).setCell ⟨b,1,none⟩ v1).setCell ⟨b,2,none⟩ v2).setCell ⟨b,3,none⟩ v3).setCell ⟨b,4,none⟩ v4).setCell ⟨b,5,none⟩ v5).setCell ⟨b,6,none⟩ v6).setCell ⟨b,7,none⟩ v7).setCell ⟨b,8,none⟩ v8).setCell ⟨b,9,none⟩ v9):=
 (((((((((h.setCell (p:=⟨b,0,none⟩) hb _).setCell (p:=⟨b,1,none⟩) hb _).setCell (p:=⟨b,2,none⟩) hb _).setCell (p:=⟨b,3,none⟩) hb _).setCell (p:=⟨b,4,none⟩) hb _).setCell (p:=⟨b,5,none⟩) hb _).setCell (p:=⟨b,6,none⟩) hb _).setCell (p:=⟨b,7,none⟩) hb _).setCell (p:=⟨b,8,none⟩) hb _).setCell (p:=⟨b,9,none⟩) hb _
def CqIn(e:TypeId)(B g:Nat)(w w4:World)(g2 n:Nat)(sub:Nat->Shp)(L:List Job)(gk:Nat)(v iv:Value)(W:World):Prop:=
 ∃i g' cap':Nat,iv=.int .i64 (i:Int)/\i+gk=n/\v=.slice (some ⟨g',0,none⟩) (L.length+i) cap'/\zd7 W B e 1 g' cap' (L.length+i) (jbX (kids g2 sub i++L))/\(∀q,q<w4.heap.size->q≠g->W.heap[q]? = w4.heap[q]?)/\(g'=g\/w4.heap.size<=g')/\w4.heap.size<=W.heap.size/\Below B w W
structure Row4(w w3 w4:World)(B:Nat)(pt:TypeId)(CS:List Value):Prop where
 old:∀q,q<w3.heap.size->w4.heap[q]? = w3.heap[q]?
 new:w4.heap[w3.heap.size]? = some (.cells CS.toArray pt (0,0))
 size:w4.heap.size=w3.heap.size+1
 below:Below B w w4
theorem row4{w w3:World}{B:Nat}{pt:TypeId}{z:Array Value}(CS:List Value)(hb:Below B w w3)(hB:B<=w3.heap.size):Row4 w w3 ((w3.alloc (.cells z pt)).setRow w3.heap.size CS.toArray) B pt CS where
 old:=λq hq=>(setRow_other (w3.alloc (.cells z pt)) w3.heap.size q CS.toArray (by omega)).trans (Below.heap_alloc w3 _ q hq)
 new:=setRow_heap _ _ _ _ _ _ (zf4 w3 _)
 size:=by
  have:((w3.alloc (.cells z pt)).setRow w3.heap.size CS.toArray).heap.size=(w3.alloc (.cells z pt)).heap.size:=by simp[World.setRow]
  rw[this,World.size_alloc]
 below:=below_setRow (hb.alloc hB _) hB _
theorem cq_in0{e pt:TypeId}{w wr w3 w4:World}{g cap d:Nat}{j:Job}{L:List Job}{sub:Nat->Shp}{n g2:Nat}{CS:List Value}(HK:zd7 wr w.heap.size e 1 g cap (L.length+1) (jbX (j::L)))(HD:d=L.length)(R:Row4 w w3 w4 w.heap.size pt CS)(hg:w4.heap[g]? = wr.heap[g]?) :
  CqIn e w.heap.size g w w4 g2 n sub L n (.slice (some ⟨g,0,none⟩) d cap) (.int .i64 0) w4:=by
 subst HD
 exact⟨0,g,cap,rfl,by omega,rfl,(HK.pop (ys:=[j.ptr]) rfl).kept hg,λ_ _ _=>rfl,.inl rfl,Nat.le_refl _,R.below⟩
theorem cq_in1{e:TypeId}{B g:Nat}{w w4 W w1:World}{g2 n i g' cap' gk:Nat}{sub:Nat->Shp}{L:List Job}{v':Value}{o:Obj}(hB:B<=W.heap.size)(hi:i<n)(hgk:i+gk=n)(hs:zd7 W B e 1 g' cap' (L.length+i) (jbX (kids g2 sub i++L)))(hk:∀q,q<w4.heap.size->q≠g->W.heap[q]? = w4.heap[q]?)(hg:g'=g\/w4.heap.size<=g')(hz:w4.heap.size<=W.heap.size)(hb:Below B w W)
  (ho:w1.ownsRow B e 1 v' (L.length+i+1) (jbX (kids g2 sub i++L)++[.pointer (some ⟨g2,i*11+1,none⟩)])) (hgr:(W.alloc o).grownBy w1 (some g')) (hat:v'.ownBlock=some g'\/v'.ownBlock=some (W.alloc o).heap.size) :
  ∃k,k<gk/\CqIn e B g w w4 g2 n sub L k v' (.int .i64 ((i:Int)+1)) w1:=by
 obtain⟨g1,c1,rfl,hs1⟩:=zd7.of_owns ho (by omega)
 have hgB:B<=g':=by obtain⟨_,h,_⟩:=hs;exact h
 have hsz:(W.alloc o).heap.size=W.heap.size+1:=World.size_alloc _ _
 refine⟨gk-1,by omega,i+1,g1,c1,by simp,by omega,rfl,hs1,λq hq hn=>?_,?_,?_,(hb.alloc hB o).grown hgr (by omega) (λk e=>by cases e;exact hgB)⟩
 ·rw[hgr.block q (by omega) (λe=>by cases e;rcases hg with hg|hg<;>omega),Below.heap_alloc W o q (by omega)]
  exact hk q hq hn
 ·rcases hat with hat|hat
  ·have:g1=g':=by simpa [Value.ownBlock]using hat
   omega
  ·have:g1=(W.alloc o).heap.size:=by simpa [Value.ownBlock]using hat
   omega
 ·have:=hgr.size;omega
theorem cq_fin{e sh pt:TypeId}{F:Nat->Prop}{w w2 w3 w4 W:World}{s:Shp}{gk g:Nat}{G:Nat->Prop}{jb jo:Nat}{k:Int}{a b c:P2}{r:Int}{l:Ctr}{n:Nat}{add:Nat->Bool}{sub:Nat->Shp}{L:List Job}{gv:Nat->Nat->Value}{CS:List Value}
  (HI:CqI F w.heap.size g w2 G w.heap.size s (⟨jb,jo,.mk k a b c r l n add sub⟩::L)) (HG:g≠w.heap.size+1/\jbM (⟨jb,jo,.mk k a b c r l n add sub⟩::L)<=gk/\gk<=1+cntS s) (hgl:g<w2.heap.size)
  (HR:∃cs,w2.heap[w.heap.size+1]? = some (.cells cs sh (0,0))/\cs.size=10) (H3:∀q,q<w2.heap.size->w3.heap[q]? = w2.heap[q]?) (H3s:w3.heap.size=w2.heap.size+1) (R:Row4 w w3 w4 w.heap.size pt CS) (HC:∀i,i<n->∀q,q<11->CS[i*11+q]? = some (gv i q)) (HV:∀i,i<n->∀q,q<11->Dyn.DenC w2 G ((zbv (add i) (toSh (sub i))).getD q default) (gv i q))
  {v:Value} {i g' cap':Nat} (hi:i=n) (hv:v=.slice (some ⟨g',0,none⟩) (L.length+i) cap') (hs:zd7 W w.heap.size e 1 g' cap' (L.length+i) (jbX (kids w3.heap.size sub i++L))) (hk:∀q,q<w4.heap.size->q≠g->W.heap[q]? = w4.heap[q]?) (hg:g'=g\/w4.heap.size<=g') (hb:Below w.heap.size w W) :
  yit e sh F w s (jbM (kids w3.heap.size sub n++L)) v (W.setCell ⟨jb,jo+9,none⟩ (.slice (some ⟨w3.heap.size,0,none⟩) n n)):=by
 subst hi;subst hv
 obtain⟨cs,hr1,hr2⟩:=HR
 have hrl:w.heap.size+1<w2.heap.size:=(Array.getElem?_eq_some_iff.1 hr1).1
 have hz:=R.size
 have hj:=HI.job _ (List.mem_cons_self ..)
 have hjl:jb<w2.heap.size:=plLt hj.pl
 have hjg:jb≠g:=hj.g
 have I4:=HI.newRow (W3:=w4) (g2:=w3.heap.size) hrl hgl rfl HV (λq hq=>(R.old q (by omega)).trans (H3 q hq)) (by omega) ⟨_,_,R.new⟩ (λi hi q hq=>by
  simp only[World.cell?,R.new,Option.isSome_none,Bool.false_eq_true,if_false]
  simpa using HC i hi q hq)
 have I5:=I4.1.fin hk hg I4.2
 have w2w:∀q,q<w2.heap.size->q≠g->q≠jb->(W.setCell ⟨jb,jo+9,none⟩ (.slice (some ⟨w3.heap.size,0,none⟩) i i)).heap[q]? = w2.heap[q]?:=λq hq hn hj=>(zbd hj).trans ((hk q (by omega) hn).trans ((R.old q (by omega)).trans (H3 q hq)))
 have hgj:g'≠jb:=by rcases hg with hg|hg<;>omega
 have hgr:g'≠w.heap.size+1:=by rcases hg with hg|hg<;>have:=HG.1<;>omega
 have hl:(kids w3.heap.size sub i++L).length=L.length+i:=by rw[List.length_append,z3k];omega
 have hm:=ya7 w3.heap.size sub L i
 have e:jbM (⟨jb,jo,.mk k a b c r l i add sub⟩::L)=1+sumC (λi=>1+cntS (sub i)) i+jbM L:=rfl
 refine⟨kids w3.heap.size sub i++L,g',cap',_,by rw[hl],by rw[hl];exact hs.kept (zbd hgj),I5,hb.setCell (p:=⟨jb,_,none⟩) hj.lo.1 _,hgr,Nat.le_refl _,?_,cs,(w2w _ hrl (λe=>HG.1 e.symm) (λe=>hj.lo.2 e.symm)).trans hr1,hr2⟩
 have:=HG.2
 omega
set_option maxHeartbeats 16000000 in
theorem yck(k:Int)(a b c:P2)(r:Int)(l:Ctr)(n:Nat)(add:Nat->Bool)(sub:Nat->Shp)(hs:ShB (.mk k a b c r l n add sub))(hcn:cntS (.mk k a b c r l n add sub)<=100000000)(w:World)(F:Nat->Prop)(hF:∀b,F b->b<w.heap.size/\Dyn.zar w b)(ol op:Option Addr)(lc pc:Nat)
  (hl:Dyn.DenC w F (cCtr l) (.slice ol l.n lc)) (hp:Dyn.DenC w F (dPt (.mk k a b c r l n add sub)) (.slice op n pc)) :
  Calls Tryz.prog 63 #[.agg #[.int .i64 k,.int .i64 a.x,.int .i64 a.y,.int .i64 b.x,.int .i64 b.y,.int .i64 c.x,.int .i64 c.y,.int .i64 r,.slice ol l.n lc,.slice op n pc]] w λe w'=>∃u,e=.returned u/\Dyn.DenR w' (λb=>F b\/(w.heap.size<=b/\b<w'.heap.size/\Dyn.zar w' b)) (.val (dvS (toSh (.mk k a b c r l n add sub)))) u/\Below w.heap.size w w':=by
 have HL:Hid (Dyn.DenC w F (cCtr l) (.slice ol l.n lc)):=hl
 have HP:Hid (Dyn.DenC w F (dPt (.mk k a b c r l n add sub)) (.slice op n pc)):=hp
 have HS:Hid (ShB (.mk k a b c r l n add sub)):=hs
 have HCN:Hid (cntS (.mk k a b c r l n add sub)<=100000000):=hcn
 have HF:Hid (∀b,F b->b<w.heap.size/\Dyn.zar w b):=hF
 have hc0:(1+(cntS (.mk k a b c r l n add sub):Int))<=100000001:=by omega
 clear hl hp hs hcn hF
 obtain⟨s,hse⟩:∃s,s=Shp.mk k a b c r l n add sub:=⟨_,rfl⟩
 have HSE:Hid (s=Shp.mk k a b c r l n add sub):=hse
 rw[←hse]at hc0 ⊢
 clear hse
 obtain⟨nc,hnc⟩:∃nc:Nat,nc=cntS s:=⟨_,rfl⟩
 have HNC:Hid (nc=cntS s):=hnc
 rw[←hnc]at hc0
 clear hnc
 go_enter Tryz.func63,Tryz.ntmps63
 go_wp2_with (go_at_call 78;refine(z6l HS.out HCN.out HF.out HL.out HP.out (((Below.refl _ w).alloc (Nat.le_refl _) _).alloc (by rw[World.size_alloc];omega) _)).mono ?_;rintro e w' ⟨rfl,hb1⟩;rw[←HSE.out,←HNC.out];have HB1:Hid (Below _ _ _):=hb1;clear hb1)
 go_loopg [4] (1+nc) (λgk v W=>yit 181 37 F w s gk v W)
 case atStart=>
  have hs:ShB s:=by rw[HSE.out];exact HS.out
  rw[HNC.out]
  refine z6k (cells:=shC k a b c r (.slice ol l.n lc) (.slice op n pc)) 181 37 HF.out hs rfl ?_ (z:=_) (by rfl) HB1.out
  rw[HSE.out];exact z9h HL.out HP.out
 case round=>
  clear HB1
  obtain⟨L,g,cap,G,rfl,hstk,hI,hbel,hgr,hms,hgk,hres⟩:=hrel
  have HI:Hid (CqI F w.heap.size g wr G w.heap.size s L):=hI
  have HB:Hid (Below w.heap.size w wr):=hbel
  have HG:Hid (g≠w.heap.size+1/\jbM L<=gk/\gk<=1+cntS s):=⟨hgr,hms,hgk⟩
  have HR:Hid (∃cs,wr.heap[w.heap.size+1]? = some (.cells cs 37 (0,0))/\cs.size=10):=hres
  clear hI hbel hgr hms hgk hres
  cases L with
  |nil=>
   have HK:Hid (zd7 wr w.heap.size 181 1 g cap 0 []):=hstk
   clear hstk
   have hx:=HI.out.box
   obtain⟨v0,h0,q0⟩:=hx 0 (by decide)
   obtain⟨v1,h1,q1⟩:=hx 1 (by decide)
   obtain⟨v2,h2,q2⟩:=hx 2 (by decide)
   obtain⟨v3,h3,q3⟩:=hx 3 (by decide)
   obtain⟨v4,h4,q4⟩:=hx 4 (by decide)
   obtain⟨v5,h5,q5⟩:=hx 5 (by decide)
   obtain⟨v6,h6,q6⟩:=hx 6 (by decide)
   obtain⟨v7,h7,q7⟩:=hx 7 (by decide)
   obtain⟨v8,h8,q8⟩:=hx 8 (by decide)
   obtain⟨v9,h9,q9⟩:=hx 9 (by decide)
   have o0:v0=.int .i64 (toSh s).k:=zhf q0
   subst o0
   have o1:v1=.int .i64 (toSh s).a.x:=zhf q1
   subst o1
   have o2:v2=.int .i64 (toSh s).a.y:=zhf q2
   subst o2
   have o3:v3=.int .i64 (toSh s).b.x:=zhf q3
   subst o3
   have o4:v4=.int .i64 (toSh s).b.y:=zhf q4
   subst o4
   have o5:v5=.int .i64 (toSh s).c.x:=zhf q5
   subst o5
   have o6:v6=.int .i64 (toSh s).c.y:=zhf q6
   subst o6
   have o7:v7=.int .i64 (toSh s).r:=zhf q7
   subst o7
   obtain⟨oa8,ca8,o8⟩:=zev (show Dyn.DenC wr G (cCtr (toSh s).l) v8 from q8)
   subst o8
   obtain⟨oa9,ca9,o9⟩:=zev (show Dyn.DenC wr G (.row (toSh s).n (toSh s).f) v9 from q9)
   subst o9
   clear hx q0 q1 q2 q3 q4 q5 q6 q7 q8 q9
   have HC:Hid (∀j u,[Value.int .i64 (toSh s).k,.int .i64 (toSh s).a.x,.int .i64 (toSh s).a.y,.int .i64 (toSh s).b.x,.int .i64 (toSh s).b.y,.int .i64 (toSh s).c.x,.int .i64 (toSh s).c.y,.int .i64 (toSh s).r,.slice oa8 (toSh s).l.n ca8,.slice oa9 (toSh s).n ca9][j]? = some u->wr.cell? ⟨w.heap.size,j,none⟩=some u):=yh4 h0 h1 h2 h3 h4 h5 h6 h7 h8 h9
   have hr:=λi (hi:i<10)=>yh5 HR.out i hi
   have y0:=hr 0 (by decide)
   have y1:=hr 1 (by decide)
   have y2:=hr 2 (by decide)
   have y3:=hr 3 (by decide)
   have y4:=hr 4 (by decide)
   have y5:=hr 5 (by decide)
   have y6:=hr 6 (by decide)
   have y7:=hr 7 (by decide)
   have y8:=hr 8 (by decide)
   have y9:=hr 9 (by decide)
   obtain⟨x0,y0⟩:=y0
   obtain⟨x1,y1⟩:=y1
   obtain⟨x2,y2⟩:=y2
   obtain⟨x3,y3⟩:=y3
   obtain⟨x4,y4⟩:=y4
   obtain⟨x5,y5⟩:=y5
   obtain⟨x6,y6⟩:=y6
   obtain⟨x7,y7⟩:=y7
   obtain⟨x8,y8⟩:=y8
   obtain⟨x9,y9⟩:=y9
   have hf:∀o,wr.frozen? ⟨w.heap.size+1,o,none⟩=false:=by
    obtain⟨cs,r1,r2⟩:=HR.out
    exact λo=>z2v ⟨_,_,r1⟩ o
   clear hr
   go_wp2
   refine bodyPost_ret (v:=.agg #[.int .i64 (toSh s).k,.int .i64 (toSh s).a.x,.int .i64 (toSh s).a.y,.int .i64 (toSh s).b.x,.int .i64 (toSh s).b.y,.int .i64 (toSh s).c.x,.int .i64 (toSh s).c.y,.int .i64 (toSh s).r,.slice oa8 (toSh s).l.n ca8,.slice oa9 (toSh s).n ca9]) (results_cell_row (p:=2) (ty:=37) rfl _ _ (w.heap.size+1) 37 _ (0,0) _ rfl (ylj HR.out _ _ _ _ _ _ _ _ _ _) Tryz.underlying37 rfl (by kernel_rfl)) rfl ?_
   refine⟨_,rfl,yh6 HF.out HI.out (cells:=[.int .i64 (toSh s).k,.int .i64 (toSh s).a.x,.int .i64 (toSh s).a.y,.int .i64 (toSh s).b.x,.int .i64 (toSh s).b.y,.int .i64 (toSh s).c.x,.int .i64 (toSh s).c.y,.int .i64 (toSh s).r,.slice oa8 (toSh s).l.n ca8,.slice oa9 (toSh s).n ca9]) rfl HC.out λq hq=>?_,?_⟩
   ·exact ylk hq _ _ _ _ _ _ _ _ _ _
   ·exact z7r HB.out (Nat.le_succ _) _ _ _ _ _ _ _ _ _ _
  |cons j L=>
   obtain⟨d,hd⟩:∃d,d=L.length:=⟨_,rfl⟩
   have c0:wr.cell? ⟨g,d,none⟩=some (.pointer (some ⟨j.b,j.off,none⟩)):=hstk.cell (by
    show(jbX L++[j.ptr])[d]? = _
    rw[List.getElem?_append_right (by rw[z0q];omega),z0q,hd,Nat.sub_self];rfl)
   have HK:Hid (zd7 wr w.heap.size 181 1 g cap (L.length+1) (jbX (j::L))):=hstk
   have hcap:(d:Int)<(cap:Int):=by obtain⟨_,_,_,h,_⟩:=hstk;simp only[List.length_cons]at h;omega
   have hdb:(d:Int)<=100000000:=by
    have:=HG.out
    have:=ykl (j::L)
    have:=HCN.out
    have e:=HSE.out
    rw[←e]at this
    simp only[List.length_cons]at *
    omega
   rw[show(j::L).length=d+1 by rw[hd];rfl]
   have HD:Hid (d=L.length):=hd
   clear hd hstk
   have hj:=HI.out.job j (List.mem_cons_self ..)
   obtain⟨jb,jo,t⟩:=j
   cases t with
   |nil=>exact hj.sh.elim
   |mk k' a' b' c' r' l' n' add' sub'=>
    obtain⟨lv,c1,dl⟩:=hj.l
    obtain⟨pv,c2,dp⟩:=hj.p
    obtain⟨ol',lc',rfl⟩:=zev dl
    obtain⟨op',pc',rfl,hpv⟩:=z2x dp
    have CT:Calls Tryz.prog 79 #[.slice ol' l'.n lc'] wr λe w1=>∃u,e=.returned u/\Dyn.DenC w1 (λb=>G b\/(wr.heap.size<=b/\b<w1.heap.size/\Dyn.zar w1 b)) (cCtr l') u/\Below wr.heap.size wr w1:=
     ycv (us:=[.slice ol' l'.n lc']) Tryz.func79 (by kernel_rfl) (by kernel_rfl) (zxo l' hj.sh.1) wr (F:=G) (λb hb=>⟨plLt (HI.out.ok.pl b hb),HI.out.ok.pl b hb⟩) ⟨dl,trivial⟩
    have HCT:=hide CT
    have HJ:Hid (JobOk w.heap.size g wr G ⟨jb,jo,.mk k' a' b' c' r' l' n' add' sub'⟩):=hj
    have HPV:=hide hpv
    have HDP:=hide dp
    have HC2:Hid (wr.cell? ⟨jb,jo+9,none⟩=some (.slice op' n' pc')):=c2
    have HC1:Hid (wr.cell? ⟨jb,jo+8,none⟩=some (.slice ol' l'.n lc')):=c1
    have c1':wr.cell? ⟨jb,jo+8,none⟩=some (.slice ol' l'.n lc'):=c1
    clear CT hj hpv dl dp c2 c1
    have hjl:jb<wr.heap.size:=plLt HJ.out.pl
    dsimp only at c0
    by_cases hz:n'=0
    ·have HZ:=hide hz
     have hzd:((n':Int)==0)=true:=by simp[hz]
     clear hz
     go_wp2_with (go_at_call 79;refine(HCT.out).mono ?_;rintro e w1 ⟨u,rfl,hu,hb1⟩;obtain⟨ou,cu,rfl⟩:=zev hu;have HU:=hide hu;have HB1:=hide hb1;have d1:w1.cell? ⟨jb,jo+8,none⟩=some (.slice ol' l'.n lc'):=(hb1.cell (p:=⟨jb,_,none⟩) hjl).trans HC1.out;have d2:w1.cell? ⟨jb,jo+9,none⟩=some (.slice op' n' pc'):=(hb1.cell (p:=⟨jb,_,none⟩) hjl).trans HC2.out;have d3:∀o,w1.frozen? ⟨jb,o,none⟩=false:=λo=>z2v (HJ.out.pl.of (hb1.block _ hjl)) o;clear hu hb1)
     go_roundg (jbM L)
     case measure=>
      have:=HG.out
      have e:jbM (⟨jb,jo,.mk k' a' b' c' r' l' n' add' sub'⟩::L)=1+cntS (.mk k' a' b' c' r' l' n' add' sub')+jbM L:=rfl
      omega
     case rel=>exact yol HK.out HI.out HB.out HG.out HR.out HD.out HB1.out HU.out HZ.out
    ·have HZ:=hide hz
     have hzd:((n':Int)==0)=false:=by simp;omega
     obtain⟨pb,po,gv,rfl,hnc,hGb,hcl⟩:=HPV.out (by omega)
     have hn0:(0:Int)<(n':Int):=by omega
     have hnp:(n':Int)<=(pc':Int):=by omega
     have HGB:=hide hGb
     have HCL:=hide hcl
     have HNP:=hide hnc
     clear hz hGb hcl hnc
     go_wp2_with (go_at_call 79;refine(HCT.out).mono ?_;rintro e w1 ⟨u,rfl,hu,hb1⟩;obtain⟨ou,cu,rfl⟩:=zev hu;have HU:=hide hu;have HB1:=hide hb1;have d1:w1.cell? ⟨jb,jo+8,none⟩=some (.slice ol' l'.n lc'):=(hb1.cell (p:=⟨jb,_,none⟩) hjl).trans HC1.out;have d2:w1.cell? ⟨jb,jo+9,none⟩=some (.slice (some ⟨pb,po,none⟩) n' pc'):=(hb1.cell (p:=⟨jb,_,none⟩) hjl).trans HC2.out;have d3:∀o,w1.frozen? ⟨jb,o,none⟩=false:=λo=>z2v (HJ.out.pl.of (hb1.block _ hjl)) o;clear hu hb1)
     have HW2:Hid (∀q,q≠jb->(w1.setCell ⟨jb,jo+8,none⟩ (.slice ou l'.n cu)).heap[q]? = w1.heap[q]?):=λq hq=>zbd hq
     have e2:(w1.setCell ⟨jb,jo+8,none⟩ (.slice ou l'.n cu)).cell? ⟨jb,jo+9,none⟩=some (.slice (some ⟨pb,po,none⟩) n' pc'):=(zfq (by omega)).trans d2
     generalize hw2:w1.setCell ⟨jb,jo+8,none⟩ (.slice ou l'.n cu)=w2 at HW2 e2 ⊢
     have HW2e:=hide hw2
     have hj2:jb<w2.heap.size:=by rw[←HW2e.out,zkc];have:=HB1.out.size;omega
     have hn1:0<n':=by omega
     clear hw2 d1 d2 d3
     have I2:CqI F w.heap.size g w2 (λb=>G b\/(wr.heap.size<=b/\b<w1.heap.size/\Dyn.zar w1 b)) w.heap.size s (⟨jb,jo,.mk k' a' b' c' r' l' n' add' sub'⟩::L):=by
      rw[←HW2e.out]
      obtain⟨cs,hr1,_⟩:=HR.out
      exact CqI.ctr HI.out (Array.getElem?_eq_some_iff.1 hr1).1 HK.out.lt HB1.out HU.out
     have HI2:=hide I2
     clear I2
     obtain⟨gv,CS,s1,s2,s3,s4,s5,s6⟩:=cq_row HI2.out e2 hn1
     have HS2:=hide s2
     have HS5:=hide s5
     have HS1:=hide s1
     have HS3:=hide s3
     have HS4:=hide s4
     clear s1 s2 s3 s4 s5
     go_region
     have e3:((w2.alloc (.cells #[.pointer (some ⟨pb,po,none⟩),.int .i64 (n':Int)] 186)).drew).cell? ⟨jb,jo+9,none⟩=some (.slice (some ⟨pb,po,none⟩) n' pc'):=(World.cell?_of_block (Below.heap_alloc w2 _ _ hj2)).trans e2
     have k0:((w2.alloc (.cells #[.pointer (some ⟨pb,po,none⟩),.int .i64 (n':Int)] 186)).drew).cell? ⟨w2.heap.size,0,none⟩=some (.pointer (some ⟨pb,po,none⟩)):=zp9 w2 _ _ 0
     have k1:((w2.alloc (.cells #[.pointer (some ⟨pb,po,none⟩),.int .i64 (n':Int)] 186)).drew).cell? ⟨w2.heap.size,1,none⟩=some (.int .i64 (n':Int)):=zp9 w2 _ _ 1
     have hj3:jb<((w2.alloc (.cells #[.pointer (some ⟨pb,po,none⟩),.int .i64 (n':Int)] 186)).drew).heap.size:=by show jb<(w2.alloc _).heap.size;rw[World.size_alloc];omega
     have HA3:Hid (∀q,q<w2.heap.size->((w2.alloc (.cells #[.pointer (some ⟨pb,po,none⟩),.int .i64 (n':Int)] 186)).drew).heap[q]? = w2.heap[q]?):=λq hq=>Below.heap_alloc w2 _ q hq
     have HB3:Hid (((w2.alloc (.cells #[.pointer (some ⟨pb,po,none⟩),.int .i64 (n':Int)] 186)).drew).heap.size=w2.heap.size+1/\Below w.heap.size w ((w2.alloc (.cells #[.pointer (some ⟨pb,po,none⟩),.int .i64 (n':Int)] 186)).drew)):=⟨World.size_alloc _ _,by
      have b2:Below w.heap.size w w2:=by rw[←HW2e.out];exact(HB.out.trans (HB1.out.mono HB.out.size)).setCell (p:=⟨jb,_,none⟩) HJ.out.lo.1 _
      exact(b2.alloc b2.size _).drew⟩
     have kz:w2.heap.size<((w2.alloc (.cells #[.pointer (some ⟨pb,po,none⟩),.int .i64 (n':Int)] 186)).drew).heap.size:=by show _<(w2.alloc _).heap.size;rw[World.size_alloc];omega
     generalize (w2.alloc (.cells #[.pointer (some ⟨pb,po,none⟩),.int .i64 (n':Int)] 186)).drew=w3 at e3 k0 k1 hj3 HA3 HB3 kz ⊢
     have hlk:=ycm pb po n'
     have hne:=λW=>run_neq_map_nil (P:=Tryz.prog) W 179 186 35 none Tryz.underlying179
     have hmk:=ycl n' (by have:=HJ.out.sh.2.1;omega)
     clear e2 hj2
     go_wp2_with (refine zwl (o:=⟨some 76,_,_,_,_,_⟩) rfl (.tmp 71) (.tmp 75) _ _ rfl 79 Tryz.underlying35 11 ybd w3.heap.size n' n' ⟨pb,po,none⟩ pc' rfl rfl (madeCells ydt (n'*11)) 79 (zf4 w3 _) (size_madeCells _ _) CS HS1.out ?k4 HS3.out ?_)
     case k4=>
      intro j v hj
      have q:=HS4.out j v hj
      have pz:pb<w3.heap.size:=by have:=HB3.out.1;omega
      rw[zhd]
      exact(World.cell?_of_block (Below.heap_alloc w3 _ _ pz)).trans ((World.cell?_of_block (HA3.out _ s6)).trans q)
     have R4:=row4 (z:=madeCells ydt (n'*11)) (pt:=79) CS HB3.out.2 (by have:=HB3.out.2.size;omega)
     generalize (w3.alloc (.cells (madeCells ydt (n'*11)) 79)).setRow w3.heap.size CS.toArray=w4 at R4 ⊢
     have HR4:=hide R4
     clear R4 e3 k0 k1 hlk hmk
     have hg4:w4.heap[g]? = wr.heap[g]?:=by
      have h1:=HK.out.lt
      have h2:=HJ.out.g
      have h3:g<w1.heap.size:=by have:=HB1.out.size;omega
      have h4:w2.heap.size=w1.heap.size:=by rw[←HW2e.out,zkc]
      rw[HR4.out.old g (by have:=HB3.out.1;omega),HA3.out g (by omega),HW2.out g (λe=>h2 e.symm),HB1.out.block g h1]
     have HR2:Hid (∃cs,w2.heap[w.heap.size+1]? = some (.cells cs 37 (0,0))/\cs.size=10):=by
      obtain⟨cs,hr1,hr2⟩:=HR.out
      refine⟨cs,?_,hr2⟩
      rw[HW2.out _ (λe=>HJ.out.lo.2 e.symm),HB1.out.block _ (Array.getElem?_eq_some_iff.1 hr1).1]
      exact hr1
     have HGL:Hid (g<w2.heap.size/\jb<w2.heap.size):=by
      have h1:=HK.out.lt
      have h2:=plLt HJ.out.pl
      have h3:=HB1.out.size
      have h4:w2.heap.size=w1.heap.size:=by rw[←HW2e.out,zkc]
      exact⟨by omega,by omega⟩
     have HM:Hid (jbM (kids w3.heap.size sub' n'++L)<gk):=by
      have h1:=ya7 w3.heap.size sub' L n'
      have h2:jbM (⟨jb,jo,.mk k' a' b' c' r' l' n' add' sub'⟩::L)=1+sumC (λi=>1+cntS (sub' i)) n'+jbM L:=rfl
      have h3:=HG.out
      show _<gk
      omega
     have hLb:L.length<=100000000:=by have:=HD.out;omega
     have hnb:n'<=1000000000:=HJ.out.sh.2.1
     go_loopg [4,84] n' (λgq v iv W=>CqIn 181 w.heap.size g w w4 w3.heap.size n' sub' L gq v iv W)
     case atStart=>exact cq_in0 HK.out HD.out HR4.out hg4
     case round=>
      clear hg4
      obtain⟨i,g',cap',rfl,hik,rfl,hst,hke,hgg,hsz,hbe⟩:=hrel
      have H1:=hide hst
      have H2:=hide hke
      have H3:=hide hgg
      have H4:=hide hsz
      have H5:=hide hbe
      have H6:=hide hik
      clear hst hke hgg hsz hbe hik
      by_cases hin:i<n'
      ·have hin2:(i:Int)<(n':Int):=by omega
       have HN:=hide hin
       have HO:Hid (wr.ownsRow w.heap.size 181 1 (.slice (some ⟨g',0,none⟩) (L.length+i) cap') (L.length+i) (jbX (kids w3.heap.size sub' i++L))):=H1.out.owns
       have HBs:Hid (w.heap.size<=wr.heap.size):=H5.out.size
       obtain⟨i0,hi,hz0,hz1,hz2⟩:=info_parts ynn
       go_wp2_with (at_builtin;refine wpList_append_own_at _ rfl _ _ 182 rfl w.heap.size 181 i0 (.pointer none) 1 8 Tryz.underlying182 hi hz0 hz1 hz2 rfl (by decide) _ _ _ rfl (HO.out.alloc _) ⟨_,0,none⟩ 1 1 [.pointer (some ⟨w3.heap.size,i*11+1,none⟩)] rfl rfl ?c1 ?c2 ?c3 ?c4 ?c5 ?_)
       case c1=>
        intro j u hj
        rw[zhd,Nat.zero_add,zp9]
        simpa using hj
       case c2=>
        intro u hu
        simp at hu
        rcases hu with rfl;rfl
       case c3=>unfold maxLen;omega
       case c4=>omega
       case c5=>rw[World.size_alloc];have:=HBs.out;omega
       ·intro v' w5 hown' hgrow _ hat
        obtain⟨q,hq1,hq2⟩:=cq_in1 HBs.out HN.out H6.out H1.out H2.out H3.out H4.out H5.out hown' hgrow (by rw[World.size_alloc];exact hat)
        have HQ1:=hide hq1
        have HQ2:=hide hq2
        clear hq1 hq2 hown' hgrow hat
        go_wp2
        go_roundg q
        case measure=>exact HQ1.out
        case rel=>exact HQ2.out
      ·have hieq:i=n':=by have:=H6.out;omega
       have HE:=hide hieq
       have hin2:¬(i:Int)<(n':Int):=by omega
       have hcell:∃pv,wr.cell? ⟨jb,jo+9,none⟩=some pv:=by
        obtain⟨pv,p1,_⟩:=(HI2.out.job _ (List.mem_cons_self ..)).p
        have h1:=HGL.out
        have h2:=HR4.out.size
        have h3:=HB3.out.1
        refine⟨pv,(World.cell?_of_block ?_).trans p1⟩
        show wr.heap[jb]? = w2.heap[jb]?
        rw[H2.out jb (by omega) HJ.out.g,HR4.out.old jb (by omega),HA3.out jb h1.2]
       have hfroz:wr.frozen? ⟨jb,jo+9,none⟩=false:=by
        have h1:=HGL.out
        have h2:=HR4.out.size
        have h3:=HB3.out.1
        refine z2v ((HI2.out.job _ (List.mem_cons_self ..)).pl.of ?_) _
        show wr.heap[jb]? = w2.heap[jb]?
        rw[H2.out jb (by omega) HJ.out.g,HR4.out.old jb (by omega),HA3.out jb h1.2]
       obtain⟨pv,hcell⟩:=hcell
       clear hin hieq
       go_wp2
       go_roundg (jbM (kids w3.heap.size sub' n'++L))
       case measure=>exact HM.out
       case rel=>exact cq_fin HI2.out HG.out HGL.out.1 HR2.out HA3.out HB3.out.1 HR4.out HS2.out HS5.out HE.out rfl H1.out H2.out H3.out H5.out
theorem yoo(s:Shp)(hs:ShB s)(hc:cntS s<=100000000):Dyn.zav Tryz.prog 63 [dvS (toSh s)] (.val (dvS (toSh s))):=λw F us hF hd=>by
 have hr:(callFunc 63 us.toArray).run Tryz.prog w=.ok (.enter 63 us.toArray) w:=by
  unfold callFunc
  simp only[Sem.run_bind,run_program,Result.andThen_ok,Tryz.func63]
  simp[show(Tryz.prog.funcs[63]?)=some Tryz.f63 from Tryz.func63,show Tryz.f63.body.isNone=false by kernel_rfl,show(Tryz.f63.name=="runtime.NumGoroutine")=false by kernel_rfl]
 rw[hr]
 refine⟨rfl,?_⟩
 cases s with
 |nil=>exact hs.elim
 |mk k a b c r l n add sub=>
  match us,hd with
  |[u],hd=>
   obtain⟨cells,rfl,hl⟩:=hd.1
   obtain⟨cl⟩:=cells
   match cl,hl with
   |[v0,v1,v2,v3,v4,v5,v6,v7,v8,v9],hl=>
    obtain⟨q0,q1,q2,q3,q4,q5,q6,q7,q8,q9,_⟩:=hl
    have o0:v0=.int .i64 k:=zhf q0
    have o1:v1=.int .i64 a.x:=zhf q1
    have o2:v2=.int .i64 a.y:=zhf q2
    have o3:v3=.int .i64 b.x:=zhf q3
    have o4:v4=.int .i64 b.y:=zhf q4
    have o5:v5=.int .i64 c.x:=zhf q5
    have o6:v6=.int .i64 c.y:=zhf q6
    have o7:v7=.int .i64 r:=zhf q7
    subst o0 o1 o2 o3 o4 o5 o6 o7
    have q8':Dyn.DenC w F (cCtr l) v8:=q8
    have q9':Dyn.DenC w F (dPt (.mk k a b c r l n add sub)) v9:=q9
    obtain⟨ol,lc,rfl⟩:=zev q8'
    obtain⟨op,pc,rfl⟩:=zev q9'
    exact yck k a b c r l n add sub hs hc w F hF ol op lc pc q8' q9'
  |[],hd=>exact hd.elim
  |_::_::_,hd=>exact hd.2.elim
theorem yh7(x:Sh)(h:PdS x)(hc:PdC x):Dyn.zav Tryz.prog 63 [dvS x] (.val (dvS (toSh (ofSh x)))):=zc5 (args:=[dvS (toSh (ofSh x))]) ⟨SLe.dv h.2,trivial⟩ (yoo _ h.1 hc)
noncomputable def tdLe:List Dyn.zb2:=[(63,en1D (qAnd (qAnd qS PdS) PdC) λx=>.val (dvS (toSh (ofSh x))))]
noncomputable def yfn:Dyn.Tabs:=Dyn.tabs tbF tdLe drCy dtyQ
theorem zup:Dyn.zal Tryz.prog yfn:=Dyn.zb0 zcy (List.forall_mem_cons.2 ⟨zfe (zbl (zbl zgt)) λx h=>yh7 x h.2.1 h.1,λ_ h=>by cases h⟩)
noncomputable def cpE(x:Sh):Sh:=toSh (ofSh x)
def leZ:Nat->List Dyn.DC:=λ_=>[.p (.bool false),.p (.int .i64 0),.p (.int .i64 0),.p (.int .i64 0),.p (.int .i64 0),.p (.int .i64 0),.p (.int .i64 0),.p (.int .i64 0),.p (.int .i64 0),.row 0 λ_=>[],.row 0 λ_=>[]]
noncomputable def leF(add:Nat->Bool)(sh:Nat->Sh)(i:Nat):List Dyn.DC:=zbv (add i) (cpE (sh i))
noncomputable def leG(n:Nat)(add:Nat->Bool)(sh hs:Nat->Sh)(i:Nat):List Dyn.DC:=bif Nat.blt i n then leF add sh i else zbv false (cpE (hs (i-n)))
def leH(hs:Nat->Sh)(i:Nat):List Dyn.DC:=cS (hs i)
def leS(n:Nat)(f:Nat->List Dyn.DC)(m:Nat)(h:Nat->List Dyn.DC)(t:Int)(i:Nat)(F:Nat->List Dyn.DC):Dyn.St:=mkS 46 [(1,sH 1 0 m),(5,sH 2 0 i),(16,sH 0 0 n),(17,sI n),(18,sI t)] [some (.deep [.row n f]),some (.deep [.row m h]),some (.own 41 i F)]
def leT(m:Nat)(h:Nat->List Dyn.DC)(t:Int)(i:Nat)(F:Nat->List Dyn.DC):Dyn.St:=mkS 46 [(5,sH 1 0 i),(32,sH 0 0 m),(33,sI m),(34,sI t)] [some (.deep [.row m h]),some (.own 41 i F)]
def leK1:List Nat:=[1,5,16,17,18]
def leK2:List Nat:=[5,32,33,34]
noncomputable def leLp(n:Nat)(add:Nat->Bool)(sh:Nat->Sh)(m:Nat)(hs:Nat->Sh):Dyn.Lp:=λid st=>match id with
 |0=>some (.side [zc2 46 [0,1] [5] leK1 (2 ^ 18) st=leS n (mkL n add sh).f m (leH hs) 0 0 leZ] (.leaf .normal (leS n (mkL n add sh).f m (leH hs) (n:Nat) n (leF add sh))))
 |2=>some (.side [zc2 46 [1] [5] leK2 (2 ^ 34) st=leT m (leH hs) 0 n (leF add sh)] (.leaf .normal (leT m (leH hs) (m:Nat) (n+m) (leG n add sh hs))))
 |_=>none
theorem ya6:zam (zbx Tryz.f45.body)=[(0,.loop (zab (blkD Tryz.f45.body 0))),(1,blkD Tryz.f45.body 1),(2,.loop (zab (blkD Tryz.f45.body 2))),(3,blkD Tryz.f45.body 3)]:=by kernel_rfl
theorem le_b0:zam (zab (blkD Tryz.f45.body 0))=[(1,blkD Tryz.f45.body 1)]:=by kernel_rfl
theorem le_b2:zam (zab (blkD Tryz.f45.body 2))=[(3,blkD Tryz.f45.body 3)]:=by kernel_rfl
noncomputable def leB0(n:Nat)(add:Nat->Bool)(sh:Nat->Sh)(m:Nat)(hs:Nat->Sh)(i:Nat)(F:Nat->List Dyn.DC):Dyn.Out:=
 .ite (decide ((i:Int)<n)) (.side [0<=(i:Int)/\(i:Int)<n] (.side [PdC (sh i),PdS (sh i),zbz (sh i).l,szP 120 i] (.leaf .normal (leS n (mkL n add sh).f m (leH hs) (W (i+1)) (i+1) (Dyn.appF i F (λ_=>leF add sh i)))))) (.leaf (.exit 0) (leS n (mkL n add sh).f m (leH hs) i i F))
noncomputable def leB2(n m:Nat)(hs:Nat->Sh)(i:Nat)(F:Nat->List Dyn.DC):Dyn.Out:=
 .ite (decide ((i:Int)<m)) (.side [0<=(i:Int)/\(i:Int)<m] (.side [PdC (hs i),PdS (hs i),zbz (hs i).l,szP 120 (n+i)] (.leaf .normal (leT m (leH hs) (W (i+1)) (n+i+1) (Dyn.appF (n+i) F (λ_=>zbv false (cpE (hs i)))))))) (.leaf (.exit 2) (leT m (leH hs) i (n+i) F))
theorem le_B0(n:Nat)(add:Nat->Bool)(sh:Nat->Sh)(m:Nat)(hs:Nat->Sh)(i:Nat)(F:Nat->List Dyn.DC):(Dyn.zbm Tryz.prog yfn (leLp n add sh m hs) 3 (zab (blkD Tryz.f45.body 0)) .leaf (leS n (mkL n add sh).f m (leH hs) i i F)).rl (λ_ s=>zc2 46 [0,1] [5] leK1 0 s)=leB0 n add sh m hs i F:=by kernel_rfl
theorem le_B2(n:Nat)(add:Nat->Bool)(sh:Nat->Sh)(m:Nat)(hs:Nat->Sh)(i:Nat)(F:Nat->List Dyn.DC):(Dyn.zbm Tryz.prog yfn (leLp n add sh m hs) 3 (zab (blkD Tryz.f45.body 2)) .leaf (leT m (leH hs) i (n+i) F)).rl (λ_ s=>zc2 46 [0] [5] leK2 0 s)=leB2 n m hs i F:=by kernel_rfl
theorem yhf(n:Nat)(add:Nat->Bool)(sh:Nat->Sh)(m:Nat)(hs:Nat->Sh)(hn:n<=1000000000)(hP:∀i,i<n->PdS (sh i)/\PdC (sh i))(w0:Dyn.Base Tryz.prog)(st:Dyn.St)(o:Dyn.Out)(h:leLp n add sh m hs 0 st=some o):Dyn.zai Tryz.prog w0 0 (.loop (zab (blkD Tryz.f45.body 0))) st o:=by
 simp only[leLp,Option.some.injEq]at h
 subst h
 refine zcc λhS=>?_
 refine za9 (fuel:=3) zup mo (lp:=leLp n add sh m hs) (by rw[le_b0];exact zaa (λs o h=>by cases h) zao) (λi (_:Unit)=>leS n (mkL n add sh).f m (leH hs) i i (leF add sh)) n (λ_ _=>()) () (λ_ s=>zc2 46 [0,1] [5] leK1 0 s) (λ_ s=>za0 46 _ _ _ 0 s) (λi _=>leB0 n add sh m hs i (leF add sh)) (λi _=>le_B0 n add sh m hs i _) (λi hi=>?_) ?_
  (Dyn.Ent.trans (s2:=leS n (mkL n add sh).f m (leH hs) 0 0 leZ) (hS▸za0 46 _ _ _ _ st) (Dyn.Ent.fits ⟨rfl,Dyn.HeLe.refl _,Dyn.HeLe.refl _,⟨rfl,rfl,λj hj=>absurd hj (Nat.not_lt_zero j)⟩,trivial⟩))
 ·refine⟨λ_=>⟨⟨⟨by omega,by show(i:Int)<(n:Int);omega⟩,trivial⟩,⟨(hP i hi).2,(hP i hi).1,zau _,zgn (by decide) (by omega),trivial⟩,rfl,?_⟩,λhf=>?_⟩
  ·rw[Wn1 hi hn]
   exact⟨rfl,Dyn.HeLe.refl _,Dyn.HeLe.refl _,zjv rfl,trivial⟩
  ·rw[decide_eq_false_iff_not]at hf
   exact absurd (show(i:Int)<(n:Int)by omega) hf
 ·refine⟨λht=>?_,λ_=>⟨rfl,Dyn.Fits.refl _⟩⟩
  rw[decide_eq_true_eq]at ht
  exact absurd (show(n:Int)<(n:Int)from ht) (by omega)
theorem leG_lt{n:Nat}{add:Nat->Bool}{sh hs:Nat->Sh}{i:Nat}(h:i<n):leG n add sh hs i=leF add sh i:=by
 unfold leG;rw[show Nat.blt i n=true from Nat.ble_eq_true_of_le h];rfl
theorem leG_ge{n:Nat}{add:Nat->Bool}{sh hs:Nat->Sh}{i:Nat}:leG n add sh hs (n+i)=zbv false (cpE (hs i)):=by
 unfold leG
 rw[show Nat.blt (n+i) n=false by rw[Bool.eq_false_iff];exact λe=>absurd (Nat.le_of_ble_eq_true e) (by omega),show n+i-n=i by omega];rfl
theorem yhe(n:Nat)(add:Nat->Bool)(sh:Nat->Sh)(m:Nat)(hs:Nat->Sh)(hn:n+m<=1000000000)(hP:∀i,i<m->PdS (hs i)/\PdC (hs i))(w0:Dyn.Base Tryz.prog)(st:Dyn.St)(o:Dyn.Out)(h:leLp n add sh m hs 2 st=some o):Dyn.zai Tryz.prog w0 2 (.loop (zab (blkD Tryz.f45.body 2))) st o:=by
 simp only[leLp,Option.some.injEq]at h
 subst h
 refine zcc λhS=>?_
 refine za9 (fuel:=3) zup mo (lp:=leLp n add sh m hs) (by rw[le_b2];exact zaa (λs o h=>by cases h) zao) (λi (_:Unit)=>leT m (leH hs) i (n+i) (leG n add sh hs)) m (λ_ _=>()) () (λ_ s=>zc2 46 [0] [5] leK2 0 s) (λ_ s=>za0 46 _ _ _ 0 s) (λi _=>leB2 n m hs i (leG n add sh hs)) (λi _=>le_B2 n add sh m hs i _) (λi hi=>?_) ?_
  (Dyn.Ent.trans (s2:=leT m (leH hs) 0 n (leF add sh)) (hS▸za0 46 _ _ _ _ st) (Dyn.Ent.fits ⟨rfl,Dyn.HeLe.refl _,⟨rfl,rfl,λj hj=>(leG_lt (add:=add) (sh:=sh) (hs:=hs) (show j<n from hj)).symm⟩,trivial⟩))
 ·refine⟨λ_=>⟨⟨⟨by omega,by show(i:Int)<(m:Int);omega⟩,trivial⟩,⟨(hP i hi).2,(hP i hi).1,zau _,zgn (by decide) (by omega),trivial⟩,rfl,?_⟩,λhf=>?_⟩
  ·rw[Wn1 hi (by omega)]
   exact⟨rfl,Dyn.HeLe.refl _,zjv leG_ge.symm,trivial⟩
  ·rw[decide_eq_false_iff_not]at hf
   exact absurd (show(i:Int)<(m:Int)by omega) hf
 ·refine⟨λht=>?_,λ_=>⟨rfl,Dyn.Fits.refl _⟩⟩
  rw[decide_eq_true_eq]at ht
  exact absurd (show(m:Int)<(m:Int)from ht) (by omega)
noncomputable def leO(n:Nat)(add:Nat->Bool)(sh:Nat->Sh)(m:Nat)(hs:Nat->Sh):Dyn.RO:=
 .side [0<=(0:Int)/\0<=W ((n:Int)+m)/\W ((n:Int)+m)<=9223372036854775807/\((120:Nat):Int)*W ((n:Int)+m)<=281474976710656] (.side [leS n (mkL n add sh).f m (leH hs) 0 0 leZ=leS n (mkL n add sh).f m (leH hs) 0 0 leZ] (.side [leT m (leH hs) 0 n (leF add sh)=leT m (leH hs) 0 n (leF add sh)] (.leaf (.val (.one (.row (n+m) (leG n add sh hs)))))))
theorem le_O(n:Nat)(add:Nat->Bool)(sh:Nat->Sh)(m:Nat)(hs:Nat->Sh):(Dyn.dfun Tryz.prog yfn (leLp n add sh m hs) 3 Tryz.f45 [dvL (mkL n add sh),.one (.row m (leH hs))]).ro Tryz.prog Tryz.f45.results=leO n add sh m hs:=by kernel_rfl
theorem yhd(n:Nat)(add:Nat->Bool)(sh:Nat->Sh)(m:Nat)(hs:Nat->Sh)(hn:n+m<=1000000)(h1:∀i,i<n->PdS (sh i)/\PdC (sh i))(h2:∀i,i<m->PdS (hs i)/\PdC (hs i)):Dyn.zav Tryz.prog 45 [dvL (mkL n add sh),.one (.row m (leH hs))] (.val (.one (.row (n+m) (leG n add sh hs)))):=
 Dyn.zbs (lp:=leLp n add sh m hs) (fuel:=3) zup mo Tryz.func45 (by kernel_rfl) (c:=zbx Tryz.f45.body) (by kernel_rfl)
  (λw0=>by rw[ya6];exact zaa (yhf n add sh m hs (by omega) h1 w0) (zaa (λs o h=>by cases h) (zaa (yhe n add sh m hs (by omega) h2 w0) (zaa (λs o h=>by cases h) zao))))
  (by kernel_rfl) (le_O n add sh m hs) (by
   have e:W ((n:Int)+m)=n+m:=W_id (by omega) (by omega)
   refine⟨⟨?_,trivial⟩,⟨rfl,trivial⟩,⟨rfl,trivial⟩,zby rfl⟩
   rw[e];exact⟨by omega,by omega,by omega,by omega⟩)
end Go.Proofs.YtmekpbopoknigaaGreatDoor

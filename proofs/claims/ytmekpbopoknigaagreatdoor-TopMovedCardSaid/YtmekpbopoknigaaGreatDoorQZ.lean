import Derived.Test.YtmekpbopoknigaaGreatDoorQR
import Derived.Test.YtmekpbopoknigaaGreatDoorQY
import Derived.Test.YtmekpbopoknigaaGreatDoorQM
namespace Go.Proofs.YtmekpbopoknigaaGreatDoor
open Go Go.RowKit Sym
set_option maxRecDepth 100000
noncomputable def tdMo:List Dyn.zb2:=[(6,en0R (rB true)),(12,enCo),(8,enTv),(10,en2D (qAnd qS PdS) qT λx t=>.tup [dvS (z0j x t),dvB (znl x t)])]
noncomputable def trMo:List Dyn.zb2:=[(5,en1D (qAnd qL PdW) λx=>rB (zka (ofSh x))),(7,en2D (qAnd qL PdS) qB λx q=>.val (dvL (toSh (z8l (ofSh x) q))))]
def drMo(K:Nat):Bool:=Nat.beq K 7||Nat.beq K 12||Nat.beq K 10
noncomputable def z8w:Dyn.Tabs:={Dyn.trT (Dyn.tabs tbF tdMo drMo λ_=>true) trMo with sl:=true}
theorem zp0:Dyn.zal Tryz.prog z8w:=by
 have h:Dyn.zal Tryz.prog (Dyn.trT (Dyn.tabs tbF tdMo drMo λ_=>true) trMo):=Dyn.zqr (Dyn.zb0 zcy (List.forall_mem_cons.2 ⟨yof awakeT,List.forall_mem_cons.2 ⟨yoc,List.forall_mem_cons.2 ⟨yn7,List.forall_mem_cons.2 ⟨zgc (zbl zgt) ymp λx t h _=>yna x h.1 t,λ_ h=>by cases h⟩⟩⟩⟩))
  (List.forall_mem_cons.2 ⟨yoe (zbl z5a) λx h=>zwy x h.1,List.forall_mem_cons.2 ⟨zox (zbl z5a) ygg λx q h _=>zzr x h.1 q,λ_ h=>by cases h⟩⟩)
 exact⟨h.nw,h.pl,h.tb,h.tx,h.td,h.tr,h.ow,h.rx,h.gv⟩
def tnH(t:Tn):Option Dyn.HE:=some (.cells 28 [vb t.mx,vb t.my,vi t.q,vi t.u.x,vi t.u.y])
def moS(m:Nat)(f:Nat->List Dyn.DC)(v:Vw)(t:Tn)(c:Nat)(F:Nat->List Dyn.DC)(i:Int):Dyn.St:=mkS 263 [(0,sH 0 0 m),(5,sL 1),(6,sL 2),(8,.k (vb false)),(9,sH 3 0 c),(10,sI i)] [some (.deep [.row m f]),vwH v,tnH t,some (.own 41 c F)]
def moK:List Nat:=[0,5,6,8,9,10]
def mxS(v:Vw)(t:Tn)(w:Vw)(k:Nat)(a b:Nat->Int)(j:Nat)(c d:Nat->Int)(x:Int):Dyn.St:=mkS 263 [(5,sL 0),(6,sL 1),(8,.k (vb false)),(15,sL 2),(16,sH 3 0 k),(18,sH 4 0 j),(20,sI x)] [vwH v,tnH t,vwH w,some (.deep [.row k (cvF a b),cB true]),some (.deep [.row j (cvF c d),cB true])]
def mxK:List Nat:=[5,6,8,15,16,18,20]
def myS(v:Vw)(t:Tn)(w:Vw)(k:Nat)(a b:Nat->Int)(j:Nat)(c d:Nat->Int)(x y:Int):Dyn.St:=mkS 263 [(5,sL 0),(6,sL 1),(8,.k (vb false)),(15,sL 2),(16,sH 3 0 k),(18,sH 4 0 j),(20,sI x),(21,sI y)] [vwH v,tnH t,vwH w,some (.deep [.row k (cvF a b),cB true]),some (.deep [.row j (cvF c d),cB true])]
def myK:List Nat:=[5,6,8,15,16,18,20,21]
noncomputable def moF(add:Nat->Bool)(sh:Nat->Sh)(t:Tn)(i:Nat):List Dyn.DC:=zbv (add i) (z0j (sh i) t)
def moT(add:Nat->Bool)(sh:Nat->Sh)(i:Nat):List Dyn.DC:=zbv (add i) (sh i)
def moR:Dyn.St:=mkS 263 [] []
noncomputable def moB(m:Nat)(add:Nat->Bool)(sh:Nat->Sh)(v:Vw)(t:Tn)(c:Nat)(F:Nat->List Dyn.DC)(i:Nat):Dyn.Out:=
 .ite (decide ((i:Int)<(m:Int))) (.side [0<=(i:Int)/\(i:Int)<(m:Int),PdS (sh i),zbz (sh i).l] (.ite (!(znl (sh i) t)) (.leaf .ret moR)
  (.side [0<=(i:Int)/\(i:Int)<(m:Int),szP 120 c] (.leaf .normal (moS m (moT add sh) v t (c+1) (Dyn.appF c F (Dyn.zpr 0 [moF add sh t i])) (W ((i:Int)+1))))))) (.leaf (.exit 0) (moS m (moT add sh) v t c F i))
def moC(v:Vw)(t:Tn)(x y:Int):P2:=zan ⟨W (W (2*v.x)+W (W (W (2*x)+1)*v.p)),W (W (2*v.y)+W (W (W (2*W (W (v.w-1)-y))+1)*v.p))⟩ ⟨t.mx,t.my,t.q,⟨W (2*t.u.x),W (2*t.u.y)⟩⟩
def moI(v:Vw)(t:Tn)(w:Vw)(x y:Int):Int:=W ((W ((moC v t x y).x-W (2*w.x))).tdiv (W (2*v.p)))
def moJ(v:Vw)(t:Tn)(w:Vw)(x y:Int):Int:=W (W (v.w-1)-W ((W ((moC v t x y).y-W (2*w.y))).tdiv (W (2*v.p))))
def moG(v:Vw)(t:Tn)(w:Vw)(x y:Int):Bool:=bif bif bif decide (moI v t w x y<0)then true else decide (moI v t w x y>=v.w)then true else decide (moJ v t w x y<0)then true else decide (moJ v t w x y>=v.w)
def moP(v:Vw)(x y:Int):Int:=W (W (y*v.w)+x)
def moQ(v:Vw)(t:Tn)(w:Vw)(x y:Int):Int:=W (W (moJ v t w x y*v.w)+moI v t w x y)
def myB(v:Vw)(t:Tn)(w:Vw)(k:Nat)(a b:Nat->Int)(j:Nat)(c d:Nat->Int)(x y:Int):Dyn.Out:=
 .ite (decide (y<v.w)) (.side [W (2*v.p)≠0,W (2*v.p)≠0] (.side [gdF (moG v t w x y) [0<=moP v x y/\moP v x y<(k:Int)],gdF (moG v t w x y) [0<=moQ v t w x y/\moQ v t w x y<(j:Int)]]
  (.ite (bif moG v t w x y then true else !(bif a (moP v x y).toNat==c (moQ v t w x y).toNat then bif b (moP v x y).toNat==d (moQ v t w x y).toNat then true else false else false)) (.leaf .ret moR)
   (.leaf .normal (myS v t w k a b j c d x (W (y+1))))))) (.leaf (.exit 4) (myS v t w k a b j c d x y))
theorem mo_B(m:Nat)(add:Nat->Bool)(sh:Nat->Sh)(v:Vw)(t:Tn)(c:Nat)(F:Nat->List Dyn.DC)(i:Nat):(Dyn.zbm Tryz.prog z8w Dyn.noLp 3 (zab (blkD Tryz.f3.body 0)) .leaf (moS m (moT add sh) v t c F i)).rl (zeu 263 [] [0,5,6,9] moK [])=moB m add sh v t c F i:=by kernel_rfl
theorem my_B(v:Vw)(t:Tn)(w:Vw)(k:Nat)(a b:Nat->Int)(j:Nat)(c d:Nat->Int)(x y:Int):(Dyn.zbm Tryz.prog z8w Dyn.noLp 3 (zab (blkD Tryz.f3.body 4)) .leaf (myS v t w k a b j c d x y)).rl (zeu 263 [] [5,6,15,16,18] myK [])=myB v t w k a b j c d x y:=by kernel_rfl
def tnAt(n:Nat)(st:Dyn.St):Tn:=match st.heap.getD n none with
 |some (.cells _ [.bool a,.bool b,.int _ q,.int _ x,.int _ y])=>⟨a,b,q,⟨x,y⟩⟩
 |_=>⟨false,false,0,⟨0,0⟩⟩
def moW(v:Vw)(t:Tn):Vw:=⟨imin (zan ⟨v.x,v.y⟩ t).x (zan ⟨W (v.x+W (v.w*v.p)),W (v.y+W (v.w*v.p))⟩ t).x,imin (zan ⟨v.x,v.y⟩ t).y (zan ⟨W (v.x+W (v.w*v.p)),W (v.y+W (v.w*v.p))⟩ t).y,v.p,v.w,v.h,v.d⟩
noncomputable def moA(m:Nat)(add:Nat->Bool)(sh:Nat->Sh)(v:Vw)(i:Nat):Int×Int:=cvI (lstD m (moT add sh)) v i
noncomputable def moD(m:Nat)(add:Nat->Bool)(sh:Nat->Sh)(v:Vw)(t:Tn)(i:Nat):Int×Int:=cvI (lstD m (moF add sh t)) (moW v t) i
noncomputable def mxQ(m:Nat)(add:Nat->Bool)(sh:Nat->Sh)(v:Vw)(t:Tn)(x:Int):Dyn.St:=mxS v t (moW v t) (pxN v) (λi=>(cvI (lstD m (moT add sh)) v i).1) (λi=>(cvI (lstD m (moT add sh)) v i).2) (pxN (moW v t)) (λi=>(cvI (lstD m (moF add sh t)) (moW v t) i).1) (λi=>(cvI (lstD m (moF add sh t)) (moW v t) i).2) x
noncomputable def myQ(m:Nat)(add:Nat->Bool)(sh:Nat->Sh)(v:Vw)(t:Tn)(x y:Int):Dyn.St:=myS v t (moW v t) (pxN v) (λi=>(cvI (lstD m (moT add sh)) v i).1) (λi=>(cvI (lstD m (moT add sh)) v i).2) (pxN (moW v t)) (λi=>(cvI (lstD m (moF add sh t)) (moW v t) i).1) (λi=>(cvI (lstD m (moF add sh t)) (moW v t) i).2) x y
structure MoOk(m:Nat)(add:Nat->Bool)(sh:Nat->Sh)(v:Vw)(t:Tn):Prop where
 w1:1<=v.w
 w2:v.w<=8
 p1:1<=v.p
 p2:v.p<=32
 st:∀x y:Nat,x<v.w.toNat->y<v.w.toNat->(0<=moI v t (moW v t) x y/\moI v t (moW v t) x y<v.w)/\(0<=moJ v t (moW v t) x y/\moJ v t (moW v t) x y<v.w)/\(0<=moP v x y/\moP v x y<(pxN v:Int))/\(0<=moQ v t (moW v t) x y/\moQ v t (moW v t) x y<(pxN (moW v t):Int))/\
  moA m add sh v (moP v x y).toNat=moD m add sh v t (moQ v t (moW v t) x y).toNat
def xAt(st:Dyn.St):Nat:=(intD (st.slots.getD 20 .junk)).toNat
noncomputable def moLp(m:Nat)(add:Nat->Bool)(sh:Nat->Sh)(v:Vw):Dyn.Lp:=λid st=>match id with
 |0=>some (.side [Dyn.nilSlot 9 41 (moF add sh (tnAt 2 st)) (zc2 263 [] [0,5,6] moK (2 ^ 10) st)=moS m (moT add sh) v (tnAt 2 st) 0 (moF add sh (tnAt 2 st)) 0,∀i,i<m->PdS (sh i)/\znl (sh i) (tnAt 2 st)=true] (.leaf .normal (moS m (moT add sh) v (tnAt 2 st) m (moF add sh (tnAt 2 st)) m)))
 |2=>some (.side [zc2 263 [] [5,6,15,16,18] mxK (2 ^ 20) st=mxQ m add sh v (tnAt 2 st) 0,MoOk m add sh v (tnAt 2 st)] (.leaf .normal (mxQ m add sh v (tnAt 2 st) v.w)))
 |4=>some (.side [zc2 263 [] [5,6,15,16,18] myK (2 ^ 21) st=myQ m add sh v (tnAt 1 st) (xAt st) 0,MoOk m add sh v (tnAt 1 st)/\xAt st<v.w.toNat] (.leaf .normal (myQ m add sh v (tnAt 1 st) (xAt st) v.w)))
 |_=>none
noncomputable def mxB(m:Nat)(add:Nat->Bool)(sh:Nat->Sh)(v:Vw)(t:Tn)(x:Nat):Dyn.Out:=
 .ite (decide ((x:Int)<v.w)) (.side [myQ m add sh v t x 0=myQ m add sh v t x 0,MoOk m add sh v t/\x<v.w.toNat] (.leaf .normal (mxQ m add sh v t (W ((x:Int)+1))))) (.leaf (.exit 2) (mxQ m add sh v t x))
theorem mx_B(m:Nat)(add:Nat->Bool)(sh:Nat->Sh)(v:Vw)(t:Tn)(x:Nat):(Dyn.zbm Tryz.prog z8w (moLp m add sh v) 3 (zab (blkD Tryz.f3.body 2)) .leaf (mxQ m add sh v t x)).rl (zeu 263 [] [5,6,15,16,18] mxK [])=mxB m add sh v t x:=by kernel_rfl
noncomputable def moO0(m:Nat)(add:Nat->Bool)(sh:Nat->Sh)(w:Vw)(u:Tn):Dyn.RO:=
 .side [moS m (moT add sh) w u 0 (moF add sh u) 0=moS m (moT add sh) w u 0 (moF add sh u) 0,∀i,i<m->PdS (sh i)/\znl (sh i) u=true] (.side [PxD m (moT add sh),GoodN (lstD m (moT add sh)),VwG w] (.side [PxD m (moF add sh u),GoodN (lstD m (moF add sh u)),VwG (moW w u)]
 (.ite (bif !true then true else !true) (.leaf (rB false)) (.side [mxQ m add sh w u 0=mxQ m add sh w u 0,MoOk m add sh w u] (.leaf (rB true))))))
def i5(n:Nat):Int:=if(5:Int)<(n:Int)then 5 else(n:Int)
noncomputable def qX5(n:Nat)(f:Nat->List Dyn.DC):Shp:=ofSh (obX (i5 n).toNat f)
noncomputable def qM5(n:Nat)(f:Nat->List Dyn.DC):Nat:=min (nuO (qX5 n f)) 12
noncomputable def qA5(n:Nat)(f:Nat->List Dyn.DC):Nat->Bool:=adO (qX5 n f)
noncomputable def qS5(n:Nat)(f:Nat->List Dyn.DC)(i:Nat):Sh:=toSh (zl4 (suO (qX5 n f) i) true 2)
def qW5(v:Vw):Vw:=⟨(tmW v).x,(tmW v).y,(tmW v).p,(tmW v).w,(tmW v).w,band (tmW v).d 1⟩
def qT1(t:Tn):Tn:=⟨t.mx,t.my,band t.q 3,zdc t.u 100000000⟩
def qT2(t:Tn):Tn:=⟨t.mx,t.my,band t.q 3,zdc (zdc t.u 100000000) 50⟩
noncomputable def moO(n:Nat)(f:Nat->List Dyn.DC)(v:Vw)(t:Tn)(q:Bool):Dyn.RO:=
 .side [PdW (obX n f)] (.ite (!(zka (ofSh (obX n f)))) (.leaf (rB true)) (.side [0<=i5 n/\i5 n<=(n:Int),PdS (obX (i5 n).toNat f),true=true] (.side [W (100000000+1)≠0]
  (.ite q (.side [W (50+1)≠0] (moO0 (qM5 n f) (qA5 n f) (qS5 n f) (qW5 v) (qT2 t))) (moO0 (qM5 n f) (qA5 n f) (qS5 n f) (qW5 v) (qT1 t))))))
theorem mo_O(n:Nat)(f:Nat->List Dyn.DC)(v:Vw)(t:Tn)(q:Bool):(Dyn.rfun Tryz.prog z8w (moLp (qM5 n f) (qA5 n f) (qS5 n f) (qW5 v)) 6 Tryz.f3 [dvL (obX n f),dvV v,dvT t,dvB q]).ro Tryz.prog Tryz.f3.results=moO n f v t q:=by kernel_rfl
end Go.Proofs.YtmekpbopoknigaaGreatDoor

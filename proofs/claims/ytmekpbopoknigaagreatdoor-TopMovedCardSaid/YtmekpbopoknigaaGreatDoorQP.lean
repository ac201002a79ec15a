import Derived.Test.YtmekpbopoknigaaGreatDoorQL
import Derived.WalkKit
import Derived.ProofKit
import Derived.Test.YtmekpbopoknigaaGreatDoorQO
import Derived.Test.YtmekpbopoknigaaGreatDoorQN
import Derived.Test.YtmekpbopoknigaaGreatDoorQM
import Derived.Laws.LoneSync
import Derived.Deep.RegionWith
namespace Go.Proofs.YtmekpbopoknigaaGreatDoor
open Go Go.RowKit Sym
set_option maxRecDepth 100000
def dC(r:Int):List Dyn.DC:=[cI 1,cI 0,cI 0,cI 0,cI 0,cI 0,cI 0,cI r,.row 0 noF,.row 0 noF]
def discS(r:Int):Shp:=zor 1 ze ze ze r zeC
theorem dC_le(r:Int):DLL (dC r) (cS (toSh (discS r))):=⟨.refl _,.refl _,.refl _,.refl _,.refl _,.refl _,.refl _,.refl _,DLe.rowL λi hi=>absurd hi (Nat.not_lt_zero i),DLe.rowL λi hi=>absurd hi (Nat.not_lt_zero i),trivial⟩
def fL2:Nat->List Dyn.DC:=Dyn.zpr 0 [cB true::dC 9,cB false::dC 2]
def dtyQ(t:TypeId):Bool:=dtyO t||Nat.beq t 81
def drCy(K:Nat):Bool:=Nat.beq K 63
def L2:Shp:=zeq 2 (λi=>Nat.beq i 0) (λi=>discS (bif Nat.beq i 0 then 9 else 2))
def L0:Shp:=zeq 0 (λ_=>false) (λ_=>.nil)
def LN(n:Nat):Shp:=bif Nat.beq n 0 then L0 else L2
theorem L2_e0:fL2 0=cB true::dC 9:=by kernel_rfl
theorem L2_e1:fL2 1=cB false::dC 2:=by kernel_rfl
theorem L2_le:DVd (.one (.row 2 fL2)) (dvL (toSh L2)):=DLe.rowL λi hi=>by
 have:i=0\/i=1:=by omega
 rcases this with rfl|rfl
 ·rw[L2_e0];exact⟨.refl _,dC_le 9⟩
 ·rw[L2_e1];exact⟨.refl _,dC_le 2⟩
def RkL(n:Nat)(f:Nat->List Dyn.DC):Prop:=n=0\/(n=2/\DLe (.row n f) (.row 2 fL2))
theorem RkL.call{P:Program}{K n:Nat}{f:Nat->List Dyn.DC}{l:List Dyn.DV}{r:Dyn.RV}(h:RkL n f)(k:Dyn.zav P K (dvL (toSh (LN n))::l) r):Dyn.zav P K (.one (.row n f)::l) r:=by
 rcases h with rfl|⟨rfl,h⟩
 ·exact zwi (v':=dvL (toSh L0)) (DLe.rowL λi hi=>absurd hi (Nat.not_lt_zero i)) k
 ·exact zwi (show DVd (.one (.row 2 f)) (.one (.row 2 fL2))from h) (zwi L2_le k)
theorem ztr(x:Sh)(h:PdS x)(b:B4):Dyn.zav Tryz.prog 58 [dvL x,dvX b] (rI (zrg (ofSh x) b)):=zc5 (args:=[dvL (toSh (ofSh x)),dvX b]) ⟨SLe.dvL h.2,Dyn.DVLe.refl _,trivial⟩ (yab _ h.1 b)
theorem lf_B{n:Nat}{add:Nat->Bool}{sub:Nat->Shp}(h:zka (zeq n add sub)=true):ShB (zeq n add sub):=by
 unfold zka at h
 by_cases hn:((n:Nat):Int)>20
 ·rw[show decide ((nuO (zeq n add sub):Int)>20)=true from decide_eq_true hn]at h;cases h
 ·rw[show decide ((nuO (zeq n add sub):Int)>20)=false from decide_eq_false hn]at h
  refine⟨⟨by decide,λi hi=>absurd hi (Nat.not_lt_zero i)⟩,by omega,λi hi=>?_⟩
  obtain⟨u,_,k2⟩:=znd h i hi
  exact yme _ 0 k2
theorem yfg(sm:Bool)(s:Shp)(h:ShB s):okE (toSh (zl4 s sm 2))=true:=by
 unfold okE
 rw[ydx]
 exact(zt9 (λp hp=>zso (tmX_le sm) hp) _ 2 0 1000 (zwr sm s 2 h (by decide) (by decide)) (by decide) (by decide) (by decide) (by decide) (by decide)).1
theorem Off.sub{a U b:B4}(h:In4 a U)(k:Off U b):Off a b:=by
 obtain⟨h1,h2,h3,h4⟩:=h
 unfold Off at *
 omega
def R3(x:Int):Prop:=0<=x/\x<=2
theorem r0:R3 0:=by unfold R3;omega
theorem r1:R3 1:=by unfold R3;omega
theorem r2:R3 2:=by unfold R3;omega
theorem b3{c:Bool}{x y:Int}(hx:R3 x)(hy:R3 y):R3 (bif c then x else y):=by
 cases c
 ·exact hy
 ·exact hx
theorem R3.cases{x:Int}(h:R3 x):x=0\/x=1\/x=2:=by unfold R3 at h;omega
theorem fold3{was cls:Int}{add:Bool}(h:R3 was):R3 (zek was cls add):=b3 r1 (b3 h (b3 r2 (b3 r0 (b3 r2 (b3 r0 r1)))))
theorem ybq(c:Nat->Int)(add:Nat->Bool):∀n,R3 (zax (λi acc=>zek acc (c i) (add i)) 0 n)
 |0=>r0
 |n+1=>fold3 (ybq c add n)
theorem disc3(b:B4)(c:P2)(r:Int):R3 (zcr b c r):=b3 r0 (b3 r0 (b3 r2 r1))
theorem line3(b:B4)(a c:P2)(r:Int):R3 (zd2 b a c r):=b3 r0 (b3 r2 (b3 r1 r0))
theorem bar3(b:B4)(a c:P2)(r:Int):R3 (zfr b a c r):=b3 r0 (b3 r2 (b3 r2 (b3 r0 r1)))
theorem ring3(b:B4)(c a e:P2)(r:Int):R3 (zda b c a e r):=b3 r0 (b3 r2 (b3 r2 (b3 r2 (b3 r1 (b3 r0 r1)))))
theorem poly3(b:B4)(l:Ctr):R3 (zch b l):=b3 r1 (b3 r2 r0)
theorem cls3(b:B4)(s:Shp):R3 (zf7 s b):=by
 cases s with
 |nil=>exact r0
 |mk k a b' c r l n add sub=>exact b3 (disc3 _ _ _) (b3 (poly3 _ _) (b3 (line3 _ _ _ _) (b3 (bar3 _ _ _ _) (b3 (ring3 _ _ _ _ _) (ybq _ _ _)))))
theorem yn1{c:Int}(h:R3 c)(add:Bool):zek c 0 add=c:=by rcases h.cases with rfl|rfl|rfl<;>cases add<;>rfl
theorem ybr{c:Int}(h:R3 c):zek 0 c false=0:=by rcases h.cases with rfl|rfl|rfl<;>rfl
theorem z36{n:Nat}{add:Nat->Bool}{c:Nat->Int}(hc:∀i,R3 (c i))(h:∀i,i<n->add i=true->c i=0):zax (λi acc=>zek acc (c i) (add i)) 0 n=0:=by
 induction n with
 |zero=>rfl
 |succ n ih=>
  show zek (zax (λi acc=>zek acc (c i) (add i)) 0 n) (c n) (add n)=0
  rw[ih λi hi=>h i (by omega)]
  cases ha:add n with
  |false=>exact ybr (hc n)
  |true=>rw[h n (by omega) ha];rfl
theorem hb6{n:Nat}{a b c:P2}{r:Int}{l:Ctr}{add:Nat->Bool}{sub:Nat->Shp}(h:hbF (.mk 6 a b c r l n add sub)=false):∀i,i<n->hbF (sub i)=false:=λi hi=>by
 have h':(!((runN (λi (_:Unit)=>(!(hbF (sub i)),())) () n).1))=false:=h
 have h2:(runN (λi (_:Unit)=>(!(hbF (sub i)),())) () n).1=true:=by simpa using h'
 obtain⟨_,_,k⟩:=znd h2 i hi
 simpa using k
def bnG(add:Nat->Bool)(sub:Nat->Shp)(i:Nat)(q:Bool×B4):Bool×B4:=bif !(add i)then q else bif (bndF (sub i)).2 then(true,tkF q.1 q.2 (bndF (sub i)).1)else q
theorem bn6(a b c:P2)(r:Int)(l:Ctr)(n:Nat)(add:Nat->Bool)(sub:Nat->Shp):bndF (.mk 6 a b c r l n add sub)=((zax (bnG add sub) (zax (bdO l) bdQ l.n) n).2,(zax (bnG add sub) (zax (bdO l) bdQ l.n) n).1):=rfl
theorem yku{a b c:P2}{r:Int}{l:Ctr}{n:Nat}{add:Nat->Bool}{sub:Nat->Shp}{i:Nat}(hi:i<n)(ha:add i=true)(hb:(bndF (sub i)).2=true):(bndF (.mk 6 a b c r l n add sub)).2=true/\In4 (bndF (sub i)).1 (bndF (.mk 6 a b c r l n add sub)).1:=by
 rw[bn6]
 exact zns (g:=bnG add sub) (λj q c' _ hc=>by
  unfold bnG
  cases add j with
  |false=>exact hc
  |true=>
   cases hk:(bndF (sub j)).2 with
   |false=>exact hc
   |true=>exact(zse _).2 c' hc) hi (λq=>by
  unfold bnG
  rw[ha,hb]
  exact(zse _).1) _
theorem fine6{P:P2->Prop}{a b c:P2}{r:Int}{l:Ctr}{n:Nat}{add:Nat->Bool}{sub:Nat->Shp}{d:Int}(h:Fine P (.mk 6 a b c r l n add sub) d):∀i,i<n->Fine P (sub i) (d+1):=by
 rcases h with⟨h,_⟩|⟨h,_⟩|⟨h,_⟩|⟨h,_⟩|⟨h,_⟩|⟨_,_,_,_,_,_,_,_,hs⟩
 ·cases h
 ·cases h
 ·cases h
 ·cases h
 ·cases h
 ·exact hs
theorem z3s{B:Int}(hB:B<=FF){b:B4}(hb:Fits b):∀(s:Shp) (d:Int),Fine (PB B) s d->hbF s=false->((bndF s).2=true->Off (bndF s).1 b)->zf7 s b=0:=by
 intro s
 induction s with
 |nil=>intro d h;exact h.elim
 |mk k a b' c r l n add sub ih=>
  intro d h hh ho
  by_cases h4:k=4
  ·subst h4;cases hh
  ·by_cases h6:k=6
   ·subst h6
    have hs:=fine6 h
    have h6:=hb6 hh
    show zax (λi acc=>zek acc (zf7 (sub i) b) (add i)) 0 n=0
    exact z36 (λi=>cls3 b (sub i)) λi hi ha=>ih i (d+1) (hs i hi) (h6 i hi) λh2=>by
     have:=yku (a:=a) (b:=b') (c:=c) (r:=r) (l:=l) (n:=n) hi ha h2
     exact(ho this.1).sub this.2
   ·exact z3u hB hb _ d h h4 h6 ho
theorem ygt{B:Int}(hB:B<=FF){b:B4}(hb:Fits b):∀(s:Shp) (d:Int),Fine (PB B) s d->(bndF s).2=false->zf7 s b=0:=by
 intro s
 induction s with
 |nil=>intro d h;exact h.elim
 |mk k a b' c r l n add sub ih=>
  intro d h ho
  by_cases h4:k=4
  ·subst h4;cases ho
  ·by_cases h6:k=6
   ·subst h6
    have hs:=fine6 h
    show zax (λi acc=>zek acc (zf7 (sub i) b) (add i)) 0 n=0
    exact z36 (λi=>cls3 b (sub i)) λi hi ha=>ih i (d+1) (hs i hi) (by
     cases h2:(bndF (sub i)).2 with
     |false=>rfl
     |true=>rw[(yku (a:=a) (b:=b') (c:=c) (r:=r) (l:=l) (n:=n) hi ha h2).1]at ho;cases ho)
   ·exact z3u hB hb _ d h h4 h6 λh=>by rw[h]at ho;cases ho
structure GoodN(s:Shp):Prop where
 rch:∀i,i<nuO s->(zdf (suO s i)).2=false->∀b,Fits b->zbf (suO s i) b=0
 near:∀i,i<nuO s->hbF (suO s i)=false->∀b,Fits b->zo3 (zdf (suO s i)).1 b=true->∀q,Sb q b->Fits q->zbf (suO s i) q=0
structure ypf(s:Shp):Prop extends GoodN s where
 ref:∀i,i<nuO s->∀b q,Sb q b->Fits b->Fits q->Ref (zbf (suO s i) b) (zbf (suO s i) q)
theorem GoodN.fil{s:Shp}(h:GoodN s)(keep:Nat->Bool):GoodN (filL keep s):=
 ⟨λ_ hi=>h.rch _ (zt3 keep hi).1,λ_ hi=>h.near _ (zt3 keep hi).1⟩
theorem ypf.fil{s:Shp}(h:ypf s)(keep:Nat->Bool):ypf (filL keep s):=
 ⟨h.toGoodN.fil keep,λ_ hi=>h.ref _ (zt3 keep hi).1⟩
theorem zye{n:Nat}{keep add:Nat->Bool}{c:Nat->Int}(h:∀i,i<n->keep i=false->c i=0):zax (λi acc=>bif keep i then zek acc (c i) (add i)else acc) 0 n=zax (λi acc=>zek acc (c i) (add i)) 0 n:=by
 induction n with
 |zero=>rfl
 |succ n ih=>
  show(bif keep n then zek (zax (λi acc=>bif keep i then zek acc (c i) (add i)else acc) 0 n) (c n) (add n)else zax (λi acc=>bif keep i then zek acc (c i) (add i)else acc) 0 n)=zek (zax (λi acc=>zek acc (c i) (add i)) 0 n) (c n) (add n)
  rw[ih λi hi=>h i (by omega)]
  cases hk:keep n with
  |true=>rfl
  |false=>rw[h n (by omega) hk,yn1 (ybq c add n)];rfl
theorem z9y{s:Shp}(h:GoodN s){b:B4}(hb:Fits b):zb6 (znh s) b=zb6 s b:=by
 unfold znh
 rw[ztq]
 exact zye λi hi hk=>h.rch i hi hk b hb
theorem zvb{s:Shp}(h:GoodN s){b q:B4}(hb:Fits b)(hq:Fits q)(hs:Sb q b):zb6 (zj3 s b) q=zb6 s q:=by
 unfold zj3
 rw[ztq]
 exact zye λi hi hk=>by
  unfold nearK at hk
  cases hh:hbF (suO s i)with
  |true=>rw[hh]at hk;cases hk
  |false=>
   rw[hh]at hk
   exact h.near i hi hh b hb (by simpa using hk) q hs hq
theorem zy9{U b:B4}(hU:Fits U)(hb:Fits b)(h:zo3 U b=true):Off U b:=by
 have e1:zg5 U=false:=by
  unfold zg5;rw[decide_eq_false (by have:=hU.x;omega),decide_eq_false (by have:=hU.y;omega)];rfl
 have e2:zg5 b=false:=by
  unfold zg5;rw[decide_eq_false (by have:=hb.x;omega),decide_eq_false (by have:=hb.y;omega)];rfl
 unfold zo3 at h
 rw[e1,e2]at h
 unfold Off
 by_cases h1:U.x1<b.x0
 ·exact .inl h1
 ·by_cases h2:b.x1<U.x0
  ·exact .inr (.inl h2)
  ·by_cases h3:U.y1<b.y0
   ·exact .inr (.inr (.inl h3))
   ·by_cases h4:b.y1<U.y0
    ·exact .inr (.inr (.inr h4))
    ·rw[decide_eq_false h1,decide_eq_false h2,decide_eq_false h3,decide_eq_false h4]at h
     cases h
theorem Off.box{U b q:B4}(h:Sb q b)(k:Off U b):Off U q:=by
 obtain⟨h1,h2,h3,h4,h5,h6⟩:=h
 unfold Off at *
 omega
def add4(f:Nat->Int×Int):Int×Int:=((f 0).1+(f 1).1+(f 2).1+(f 3).1,(f 0).2+(f 1).2+(f 2).2+(f 3).2)
def cnN(C:B4->Int):Nat->B4->Int×Int
 |0,b=>bif C b==0 then(0,0)else bif C b==2 then(zci 0,zci 0)else(0,1)
 |d+1,b=>bif C b==0 then(0,0)else bif C b==2 then(zci (d+1),zci (d+1))else add4 λi=>cnN C d (spB b i)
theorem zug(d:Nat):zci (d+1)=4*zci d:=by
 unfold zci
 rw[Nat.pow_succ];omega
theorem zsh:∀d,1<=zci d
 |0=>by decide
 |d+1=>by have:=zsh d;rw[zug];omega
theorem ycp(C:B4->Int):∀d b,0<=(cnN C d b).1/\(cnN C d b).1<=(cnN C d b).2/\(cnN C d b).2<=zci d
 |0,b=>by
  unfold cnN
  cases C b==0<;>cases C b==2<;>exact⟨by decide,by decide,by decide⟩
 |d+1,b=>by
  have p:=zsh (d+1)
  have p0:=zsh d
  have e:=zug d
  unfold cnN
  cases C b==0
  ·cases C b==2
   ·have h0:=ycp C d (spB b 0)
    have h1:=ycp C d (spB b 1)
    have h2:=ycp C d (spB b 2)
    have h3:=ycp C d (spB b 3)
    simp only[cond_false,add4]
    omega
   ·show 0<=zci (d+1)/\zci (d+1)<=zci (d+1)/\zci (d+1)<=zci (d+1)
    omega
  ·show 0<=(0:Int)/\(0:Int)<=0/\(0:Int)<=zci (d+1)
   omega
def Dv(d:Nat)(b:B4):Prop:=Fits b/\∃w h:Int,1<=w/\1<=h/\b.x1-b.x0=w*((2 ^ d:Nat):Int)/\b.y1-b.y0=h*((2 ^ d:Nat):Int)
theorem z1t(d:Nat)(w:Int):w*((2 ^ (d+1):Nat):Int)=2*(w*((2 ^ d:Nat):Int)):=by
 rw[Nat.pow_succ,Int.natCast_mul]
 show w*(((2 ^ d:Nat):Int)*2)=_
 rw[←Int.mul_assoc,Int.mul_comm]
theorem z7c(d:Nat){w:Int}(h:1<=w):1<=w*((2 ^ d:Nat):Int):=by
 have:1<=((2 ^ d:Nat):Int):=by have:=Nat.two_pow_pos d;omega
 have:=Int.mul_le_mul h this (by omega) (by omega)
 omega
theorem Dv.ok{d:Nat}{b:B4}(h:Dv (d+1) b):zzw b=true:=by
 obtain⟨hf,w,k,hw,hk,e1,e2⟩:=h
 rw[z1t]at e1 e2
 have p1:=z7c d hw
 have p2:=z7c d hk
 generalize w*((2 ^ d:Nat):Int)=u at *
 generalize k*((2 ^ d:Nat):Int)=v at *
 have:=hf.x0;have:=hf.x1;have:=hf.y0;have:=hf.y1
 unfold zzw
 rw[(zsj b).2 hf,W_id (x:=b.x1-b.x0) (by omega) (by omega),W_id (x:=b.y1-b.y0) (by omega) (by omega),e1,e2]
 rw[show(2*u==0)=false by simp;omega,show(2*v==0)=false by simp;omega,show((2*u).tmod 2 != 0)=false by rw[Int.tmod_eq_emod_of_nonneg (by omega)];simp,show((2*v).tmod 2 != 0)=false by rw[Int.tmod_eq_emod_of_nonneg (by omega)];simp]
 rfl
theorem Dv.half{d:Nat}{b:B4}(h:Dv (d+1) b):∃mx my:Int,(b.x0<mx/\2*mx=b.x0+b.x1)/\(b.y0<my/\2*my=b.y0+b.y1)/\spB b 0=⟨b.x0,b.y0,mx,my⟩/\spB b 1=⟨mx,b.y0,b.x1,my⟩/\spB b 2=⟨b.x0,my,mx,b.y1⟩/\∀i,spB b (i+3)=⟨mx,my,b.x1,b.y1⟩:=by
 obtain⟨h1,h2,h3,h4,h5⟩:=spl_of h.1 h.ok
 refine⟨midX b,midY b,⟨h2,h4⟩,⟨h3,h5⟩,?_,?_,?_,λi=>?_⟩
 ·show(⟨spl b 0 b.x0,spl b 0 b.y0,spl b 0 (midX b),spl b 0 (midY b)⟩:B4)=_
  simp only[h1]
 ·show(⟨spl b 0 (midX b),spl b 0 b.y0,spl b 0 b.x1,spl b 0 (midY b)⟩:B4)=_
  simp only[h1]
 ·show(⟨spl b 0 b.x0,spl b 0 (midY b),spl b 0 (midX b),spl b 0 b.y1⟩:B4)=_
  simp only[h1]
 ·show(⟨spl b 0 (midX b),spl b 0 (midY b),spl b 0 b.x1,spl b 0 b.y1⟩:B4)=_
  simp only[h1]
theorem Dv.sub{d:Nat}{b:B4}(h:Dv (d+1) b)(i:Nat):Dv d (spB b i)/\Sb (spB b i) b:=by
 obtain⟨mx,my,⟨x1,x2⟩,⟨y1,y2⟩,e0,e1,e2,e3⟩:=h.half
 obtain⟨hf,w,k,hw,hk,g1,g2⟩:=h
 rw[z1t]at g1 g2
 have f1:=hf.x0;have f2:=hf.x;have f3:=hf.x1;have f4:=hf.y0;have f5:=hf.y;have f6:=hf.y1
 match i with
 |0=>rw[e0];exact⟨⟨⟨f1,by dsimp only;omega,by dsimp only;omega,f4,by dsimp only;omega,by dsimp only;omega⟩,w,k,hw,hk,by dsimp only;omega,by dsimp only;omega⟩,⟨by dsimp only;omega,by dsimp only;omega,by dsimp only;omega,by dsimp only;omega,by dsimp only;omega,by dsimp only;omega⟩⟩
 |1=>rw[e1];exact⟨⟨⟨by dsimp only;omega,by dsimp only;omega,f3,f4,by dsimp only;omega,by dsimp only;omega⟩,w,k,hw,hk,by dsimp only;omega,by dsimp only;omega⟩,⟨by dsimp only;omega,by dsimp only;omega,by dsimp only;omega,by dsimp only;omega,by dsimp only;omega,by dsimp only;omega⟩⟩
 |2=>rw[e2];exact⟨⟨⟨f1,by dsimp only;omega,by dsimp only;omega,by dsimp only;omega,by dsimp only;omega,f6⟩,w,k,hw,hk,by dsimp only;omega,by dsimp only;omega⟩,⟨by dsimp only;omega,by dsimp only;omega,by dsimp only;omega,by dsimp only;omega,by dsimp only;omega,by dsimp only;omega⟩⟩
 |i+3=>rw[e3];exact⟨⟨⟨by dsimp only;omega,by dsimp only;omega,f3,by dsimp only;omega,by dsimp only;omega,f6⟩,w,k,hw,hk,by dsimp only;omega,by dsimp only;omega⟩,⟨by dsimp only;omega,by dsimp only;omega,by dsimp only;omega,by dsimp only;omega,by dsimp only;omega,by dsimp only;omega⟩⟩
theorem Sb.trans{a b c:B4}(h:Sb a b)(k:Sb b c):Sb a c:=by
 obtain⟨h1,h2,h3,h4,h5,h6⟩:=h
 obtain⟨k1,k2,k3,k4,k5,k6⟩:=k
 exact⟨by omega,h2,by omega,by omega,h5,by omega⟩
theorem Sb.self{b:B4}(h:Fits b):Sb b b:=⟨Int.le_refl _,h.x,Int.le_refl _,Int.le_refl _,h.y,Int.le_refl _⟩
theorem zqj{C C':B4->Int}:∀d b,Dv d b->(∀q,Sb q b->Fits q->C q=C' q)->cnN C d b=cnN C' d b
 |0,b,h,hc=>by
  unfold cnN
  rw[hc b (Sb.self h.1) h.1]
 |d+1,b,h,hc=>by
  have ih:∀i,cnN C d (spB b i)=cnN C' d (spB b i):=λi=>zqj d _ (h.sub i).1 λq hq hf=>hc q (hq.trans (h.sub i).2) hf
  unfold cnN
  rw[hc b (Sb.self h.1) h.1]
  simp only[ih]
def stN:Nat->Int
 |0=>1
 |d+1=>1+4*stN d
theorem yjw:∀d,1<=stN d
 |0=>by decide
 |d+1=>by have:=yjw d;unfold stN;omega
structure ExOk(r:ExR)(c:Int×Int)(a n:Int):Prop where
 lo:r.lo=c.1
 hi:r.hi=c.2
 e:r.e=0
 a1:a+1<=r.a
 a2:r.a<=a+n
theorem exQ_ok{f:B4->Int->ExR}{b:B4}{a n M:Int}{cs:Nat->Int×Int}(hn:1<=n)(h:∀i a',i<4->a<=a'->a'<=a+3*n->ExOk (f (spB b i) a') (cs i) a' n)(hb:∀i,0<=(cs i).1/\(cs i).1<=(cs i).2/\(cs i).2<=M)(hM:M<=1000000000):ExOk (exQ f b a) (add4 cs) a (4*n):=by
 have h0:=h 0 a (by omega) (by omega) (by omega)
 have h1:=h 1 _ (by omega) (show a<=(f (spB b 0) a).a by have:=h0.a1;omega) (by have:=h0.a2;omega)
 have h2:=h 2 _ (by omega) (show a<=(f (spB b 1) (f (spB b 0) a).a).a by have:=h0.a1;have:=h1.a1;omega) (by have:=h0.a2;have:=h1.a2;omega)
 have h3:=h 3 _ (by omega) (show a<=(f (spB b 2) (f (spB b 1) (f (spB b 0) a).a).a).a by have:=h0.a1;have:=h1.a1;have:=h2.a1;omega) (by have:=h0.a2;have:=h1.a2;have:=h2.a2;omega)
 have b0:=hb 0;have b1:=hb 1;have b2:=hb 2;have b3:=hb 3
 unfold exQ
 rw[h0.e,h1.e,h2.e,h3.e,h0.lo,h1.lo,h2.lo,h3.lo,h0.hi,h1.hi,h2.hi,h3.hi]
 have g0:=h0.a1;have g1:=h1.a1;have g2:=h2.a1;have g3:=h3.a1
 have k0:=h0.a2;have k1:=h1.a2;have k2:=h2.a2;have k3:=h3.a2
 generalize (f (spB b 3) (f (spB b 2) (f (spB b 1) (f (spB b 0) a).a).a).a).a=a4 at *
 generalize (f (spB b 2) (f (spB b 1) (f (spB b 0) a).a).a).a=a3 at *
 generalize (f (spB b 1) (f (spB b 0) a).a).a=a2 at *
 generalize (f (spB b 0) a).a=a1 at *
 show ExOk ⟨W (W (W (W (0+(cs 0).1)+(cs 1).1)+(cs 2).1)+(cs 3).1),W (W (W (W (0+(cs 0).2)+(cs 1).2)+(cs 2).2)+(cs 3).2),0,a4⟩ _ _ _
 rw[W_id (x:=0+(cs 0).1) (by omega) (by omega),W_id (x:=0+(cs 0).1+(cs 1).1) (by omega) (by omega),W_id (x:=0+(cs 0).1+(cs 1).1+(cs 2).1) (by omega) (by omega),W_id (x:=0+(cs 0).1+(cs 1).1+(cs 2).1+(cs 3).1) (by omega) (by omega),
  W_id (x:=0+(cs 0).2) (by omega) (by omega),W_id (x:=0+(cs 0).2+(cs 1).2) (by omega) (by omega),W_id (x:=0+(cs 0).2+(cs 1).2+(cs 2).2) (by omega) (by omega),W_id (x:=0+(cs 0).2+(cs 1).2+(cs 2).2+(cs 3).2) (by omega) (by omega)]
 unfold add4
 exact⟨by dsimp only;omega,by dsimp only;omega,rfl,by dsimp only;omega,by dsimp only;omega⟩
theorem yid:∀d,d<=14->zci d<=1000000000:=λd hd=>by
 unfold zci
 have:4 ^ d<=4 ^ 14:=Nat.pow_le_pow_right (by decide) hd
 have e:4 ^ 14=268435456:=by decide
 omega
theorem yko{most:Int}(h2:most<=100000000):∀d,d<=14->∀s b a,GoodN s->Dv d b->0<=a->a+stN d<=most->ExOk (exF most d s b a) (cnN (zb6 s) d b) a (stN d)
 |0,_,s,b,a,hg,hd,h0,h1=>by
  unfold stN at h1
  unfold exF cnN stN exT
  rw[W_id (x:=a+1) (by omega) (by omega),decide_eq_true (show a+1<=most by omega)]
  cases zb6 s b==0
  ·cases zb6 s b==2
   ·exact⟨rfl,rfl,rfl,by show a+1<=a+1;omega,by show a+1<=a+1;omega⟩
   ·exact⟨rfl,rfl,rfl,by show a+1<=a+1;omega,by show a+1<=a+1;omega⟩
  ·exact⟨rfl,rfl,rfl,by show a+1<=a+1;omega,by show a+1<=a+1;omega⟩
 |d+1,hd14,s,b,a,hg,hd,h0,h1=>by
  have sp:=yjw d
  have es:stN (d+1)=1+4*stN d:=rfl
  rw[es]at h1 ⊢
  have e:∀i,cnN (zb6 (zj3 s (spB b i))) d (spB b i)=cnN (zb6 s) d (spB b i):=λi=>
   zqj d _ (hd.sub i).1 λq hq hf=>zvb hg (hd.sub i).1.1 hf hq
  have key:ExOk (exQ (λq a=>exF most d (zj3 s q) q a) b (a+1)) (add4 λi=>cnN (zb6 s) d (spB b i)) (a+1) (4*stN d):=
   exQ_ok (M:=zci d) (by omega) (λi a' hi l1 l2=>by
    have:=yko h2 d (by omega) (zj3 s (spB b i)) (spB b i) a' (hg.fil _) (hd.sub i).1 (by omega) (by omega)
    rwa [e i]at this) (λi=>ycp _ d _) (yid d (by omega))
  unfold exF cnN exT
  rw[W_id (x:=a+1) (by omega) (by omega),decide_eq_true (show a+1<=most by omega)]
  cases zb6 s b==0
  ·cases zb6 s b==2
   ·obtain⟨k1,k2,k3,k4,k5⟩:=key
    refine⟨k1,k2,k3,?_,?_⟩
    ·show a+1<=(exQ (λq a=>exF most d (zj3 s q) q a) b (a+1)).a
     omega
    ·show(exQ (λq a=>exF most d (zj3 s q) q a) b (a+1)).a<=a+(1+4*stN d)
     omega
   ·exact⟨rfl,rfl,rfl,by show a+1<=a+1;omega,by show a+1<=a+(1+4*stN d);omega⟩
  ·exact⟨rfl,rfl,rfl,by show a+1<=a+1;omega,by show a+1<=a+(1+4*stN d);omega⟩
def hbN(g:Sh->Bool)(sh:Nat->Sh)(i:Nat)(_:Unit):Bool×Unit:=(!(g (sh i)),())
def hbG(g:Sh->Bool)(sh:Nat->Sh)(s:Sh):Bool:=bif s.k==4 then true else !((runN (hbN g sh) () s.n).1)
def HbOk(x:Sh)(g:Sh->Bool):Prop:=Dyn.zav Tryz.prog 55 [dvS x] (rB (g x))
def tdHb(Pd:Sh->Prop)(g:Sh->Bool):List Dyn.zb2:=[(55,en1D (qAnd qS Pd) λx=>rB (g x))]
def yl1(Pd:Sh->Prop)(g:Sh->Bool):Dyn.Tabs:=Dyn.tabs tbF (tdHb Pd g) noD dtyS
theorem z17{Pd:Sh->Prop}{g:Sh->Bool}(ih:∀x,Pd x->HbOk x g):Dyn.zal Tryz.prog (yl1 Pd g):=
 Dyn.zb0 zcy (List.forall_mem_cons.2 ⟨zfe (zbl zgt) λx h=>ih x h.1,λ_ h=>by cases h⟩)
def hbS(s:Sh)(i:Int):Dyn.St:=mkS 19 [(2,.k (vb false)),(9,sH 0 9 s.n),(10,sI s.n),(11,sI i)] [some (.deep (cS s))]
def hbR:Dyn.St:=mkS 19 [(2,.k (vb true))] []
def hbK:List Nat:=[2,9,10,11]
def hbLp(g:Sh->Bool)(sh:Nat->Sh)(s:Sh):Dyn.Lp:=λid st=>match id with
 |0=>some (.side [zc2 19 [0] [] hbK (2 ^ 11) st=hbS s 0] (.ite (runN (hbN g sh) () s.n).1 (.leaf .normal (hbS s s.n)) (.leaf .ret hbR)))
 |_=>none
def hbB(Pd:Sh->Prop)(g:Sh->Bool)(sh:Nat->Sh)(s:Sh)(i:Nat):Dyn.Out:=
 .ite (decide ((i:Int)<s.n)) (.side [0<=(i:Int)/\(i:Int)<s.n] (.side [Pd (sh i),zbz (sh i).l] (.ite (g (sh i)) (.leaf .ret hbR) (.leaf .normal (hbS s (W (i+1))))))) (.leaf (.exit 0) (hbS s i))
theorem hb_B(Pd:Sh->Prop)(g:Sh->Bool)(k:Int)(a b c:P2)(r:Int)(l:Ctr)(n:Nat)(add:Nat->Bool)(sh:Nat->Sh)(i:Nat) :
  (Dyn.zbm Tryz.prog (yl1 Pd g) (hbLp g sh (mkSh k a b c r l n add sh)) 3 (zab (blkD Tryz.f55.body 0)) .leaf (hbS (mkSh k a b c r l n add sh) i)).rl (zeu 19 [0] [] hbK [2])=hbB Pd g sh (mkSh k a b c r l n add sh) i:=by kernel_rfl
theorem ybh:zam (zbx Tryz.f55.body)=[(0,.loop (zab (blkD Tryz.f55.body 0))),(1,blkD Tryz.f55.body 1)]:=by kernel_rfl
theorem hb_b0:zam (zab (blkD Tryz.f55.body 0))=[(1,blkD Tryz.f55.body 1)]:=by kernel_rfl
theorem ynp{Pd:Sh->Prop}{g:Sh->Bool}(ih:∀x,Pd x->HbOk x g)(k:Int)(a b c:P2)(r:Int)(l:Ctr)(n:Nat)(add:Nat->Bool)(sh:Nat->Sh)(hn:n<=1000000000)(hP:∀i,i<n->Pd (sh i))(w0:Dyn.Base Tryz.prog)(st:Dyn.St)(o:Dyn.Out)(h:hbLp g sh (mkSh k a b c r l n add sh) 0 st=some o):Dyn.zai Tryz.prog w0 0 (.loop (zab (blkD Tryz.f55.body 0))) st o:=by
 simp only[hbLp,Option.some.injEq]at h
 subst h
 refine zcc λhS=>?_
 refine zfv (fuel:=3) (z17 ih) mo (lp:=hbLp g sh (mkSh k a b c r l n add sh)) (by rw[hb_b0];exact zaa (λs o h=>by cases h) zao) (λi (_:Unit)=>hbS (mkSh k a b c r l n add sh) i) n (hbN g sh) () (λ_=>hbR) (zeu 19 [0] [] hbK [2]) (zcq 19 _ _ _ _) (λi _=>hbB Pd g sh (mkSh k a b c r l n add sh) i) (λi _=>hb_B Pd g k a b c r l n add sh i) (λi a hi ha=>?_) (λa ha=>?_) (hS▸za0 19 _ _ _ _ st)
 ·refine⟨λ_=>⟨⟨⟨by omega,by show(i:Int)<(n:Int);omega⟩,trivial⟩,⟨hP i hi,zau _,trivial⟩,λhx=>.inr ⟨rfl,?_,Dyn.Fits.refl _⟩,λhx=>.inl ⟨rfl,?_,?_⟩⟩,λhf=>?_⟩
  ·simpa [hbN]using hx
  ·simpa [hbN]using hx
  ·rw[Wn1 hi hn];exact Dyn.Fits.refl _
  ·rw[decide_eq_false_iff_not]at hf
   exact absurd (show(i:Int)<(n:Int)by omega) hf
 ·refine⟨λht=>?_,λ_=>⟨rfl,Dyn.Fits.refl _⟩⟩
  rw[decide_eq_true_eq]at ht
  exact absurd (show(n:Int)<(n:Int)from ht) (by omega)
def hbO(g:Sh->Bool)(sh:Nat->Sh)(s:Sh):Dyn.RO:=
 .ite (s.k==4) (.leaf (rB true)) (.side [hbS s 0=hbS s 0] (.ite (runN (hbN g sh) () s.n).1 (.leaf (rB false)) (.leaf (rB true))))
theorem hb_O(Pd:Sh->Prop)(g:Sh->Bool)(sh:Nat->Sh)(s:Sh):(Dyn.dfun Tryz.prog (yl1 Pd g) (hbLp g sh s) 3 Tryz.f55 [dvS s]).ro Tryz.prog Tryz.f55.results=hbO g sh s:=by kernel_rfl
theorem hb_lvl{Pd:Sh->Prop}{g:Sh->Bool}(ih:∀x,Pd x->HbOk x g)(k:Int)(a b c:P2)(r:Int)(l:Ctr)(n:Nat)(add:Nat->Bool)(sh:Nat->Sh)(hn:n<=1000000000)(hP:∀i,i<n->Pd (sh i)):Dyn.zav Tryz.prog 55 [dvS (mkSh k a b c r l n add sh)] (rB (hbG g sh (mkSh k a b c r l n add sh))):=
 Dyn.zbs (lp:=hbLp g sh (mkSh k a b c r l n add sh)) (fuel:=3) (z17 ih) mo Tryz.func55 (by kernel_rfl) (c:=zbx Tryz.f55.body) (by kernel_rfl)
  (λw0=>by rw[ybh];exact zaa (ynp ih k a b c r l n add sh hn hP w0) (zaa (λs o h=>by cases h) zao))
  (by kernel_rfl) (hb_O Pd g sh _) (by
   unfold hbG
   refine⟨λh=>?_,λh=>⟨⟨rfl,trivial⟩,λh2=>?_,λh2=>?_⟩⟩
   ·rw[h];exact zby rfl
   ·rw[h,show(runN (hbN g sh) () (mkSh k a b c r l n add sh).n).1=true from h2];exact zby rfl
   ·rw[h,show(runN (hbN g sh) () (mkSh k a b c r l n add sh).n).1=false from h2];exact zby rfl)
noncomputable def hbE(x:Sh):Bool:=hbF (ofSh x)
theorem ybi(s:Shp):hbE (toSh s)=hbF s:=by unfold hbE;rw[za7]
theorem ynq(k:Int)(a b c:P2)(r:Int)(l:Ctr)(n:Nat)(add:Nat->Bool)(sub:Nat->Shp):hbF (.mk k a b c r l n add sub)=hbG hbE (λi=>toSh (sub i)) (mkSh k a b c r l n add (λi=>toSh (sub i))):=by
 unfold hbG hbN
 simp only[ybi]
 rfl
theorem hb_ok:∀s:Shp,ShB s->HbOk (toSh s) hbE:=by
 intro s
 induction s with
 |nil=>intro h;exact h.elim
 |mk k a b c r l n add sub ih=>
  intro h
  unfold HbOk
  rw[ybi,ynq]
  exact hb_lvl (Pd:=λx=>∃i,i<n/\x=toSh (sub i)) (λx hx=>by
   obtain⟨i,hi,rfl⟩:=hx
   exact ih i (h.2.2 i hi)) k a b c r l n add (λi=>toSh (sub i)) h.2.1 (λi hi=>⟨i,hi,rfl⟩)
theorem hb_all:∀x,PdS x->HbOk x hbE:=λx hx=>by
 have k:=hb_ok _ hx.1
 unfold HbOk at k
 rw[show hbE (toSh (ofSh x))=hbE x by unfold hbE;rw[za7]]at k
 exact zc5 (args:=[dvS (toSh (ofSh x))]) ⟨SLe.dv hx.2,trivial⟩ k
structure Gr where
 n:Nat
 f:Nat->List Dyn.DC
 m:Nat
 h:Nat->List Dyn.DC
def dvG(x:Gr):Dyn.DV:=.agg [.row x.n x.f,.row x.m x.h]
def extC(b:B4)(q:Bool):List Dyn.DC:=[cI b.x0,cI b.y0,cI b.x1,cI b.y1,.p (vb q)]
def qG:Dec Gr
 |.agg [.row n f,.row m h]=>some (⟨n,f,m,h⟩,[])
 |_=>none
theorem z91:zix qG dvG (λ_=>True):=λd x ps h hp=>by
 unfold qG at h;split at h
 ·simp only[Option.some.injEq,Prod.mk.injEq]at h
  obtain⟨rfl,rfl⟩:=h
  exact⟨⟨⟨rfl,λ_ _=>rfl⟩,⟨rfl,λ_ _=>rfl⟩,trivial⟩,trivial⟩
 ·cases h
noncomputable def ofG(x:Gr):Shp:=ofSh (obX x.n x.f)
def toG(s:Shp):Gr:=⟨nuO s,λi=>zbv (adO s i) (toSh (suO s i)),nuO s,λi=>extC (zdf (suO s i)).1 (hbF (suO s i))⟩
def lst(s:Shp):Shp:=zeq (nuO s) (adO s) (suO s)
theorem zu7(s:Shp):ofG (toG s)=lst s:=by
 show ofSh (toSh (lst s))=lst s
 exact za7 _
structure Vw where
 x:Int
 y:Int
 p:Int
 w:Int
 h:Int
 d:Int
structure VwG(v:Vw):Prop where
 d:v.d=0\/v.d=1
 p1:1<=v.p
 p2:v.p<=10000000
 e:v.d=1->v.p%2=0
 w1:1<=v.w
 w2:v.w<=8
 h1:1<=v.h
 h2:v.h<=8
 x1 : -200000000<=v.x
 x2:v.x<=200000000
 y1 : -200000000<=v.y
 y2:v.y<=200000000
def pixB(v:Vw)(x y:Int):B4:=⟨v.x+x*v.p,v.y+(v.h-1-y)*v.p,v.x+x*v.p+v.p,v.y+(v.h-1-y)*v.p+v.p⟩
def rowB(v:Vw)(y:Int):B4:=⟨(pixB v 0 y).x0,(pixB v 0 y).y0,(pixB v (v.w-1) y).x1,(pixB v (v.w-1) y).y1⟩
theorem zmf{a b n:Int}(h0:0<=a)(h1:a<=n)(hb:0<=b):0<=a*b/\a*b<=n*b:=⟨Int.mul_nonneg h0 hb,Int.mul_le_mul_of_nonneg_right h1 hb⟩
theorem zyo{v:Vw}(h:VwG v){x:Int}(hx:0<=x/\x<v.w):0<=x*v.p/\x*v.p<=(v.w-1)*v.p/\(v.w-1)*v.p<=7*v.p:=by
 have:=h.p1;have:=h.w2
 exact⟨(zmf (a:=x) (b:=v.p) (n:=v.w-1) hx.1 (by omega) (by omega)).1,(zmf (a:=x) (b:=v.p) (n:=v.w-1) hx.1 (by omega) (by omega)).2,(zmf (a:=v.w-1) (b:=v.p) (n:=7) (by omega) (by omega) (by omega)).2⟩
theorem ya4{v:Vw}(h:VwG v){y:Int}(hy:0<=y/\y<v.h):0<=(v.h-1-y)*v.p/\(v.h-1-y)*v.p<=7*v.p:=by
 have:=h.p1;have:=h.h2
 exact zmf (a:=v.h-1-y) (b:=v.p) (n:=7) (by omega) (by omega) (by omega)
theorem zu0{v:Vw}(h:VwG v){x y:Int}(hx:0<=x/\x<v.w)(hy:0<=y/\y<v.h):Fits (pixB v x y):=by
 obtain⟨a1,a2,a3⟩:=zyo h hx
 obtain⟨b1,b2⟩:=ya4 h hy
 obtain⟨_,p1,p2,_,_,_,_,_,x1,x2,y1,y2⟩:=h
 unfold pixB
 exact⟨by dsimp only;omega,by dsimp only;omega,by dsimp only;omega,by dsimp only;omega,by dsimp only;omega,by dsimp only;omega⟩
theorem ygi{v:Vw}(h:VwG v){x y:Int}(hx:0<=x/\x<v.w)(hy:0<=y/\y<v.h):Dv v.d.toNat (pixB v x y):=by
 refine⟨zu0 h hx hy,?_⟩
 have p1:=h.p1
 have e1:(pixB v x y).x1-(pixB v x y).x0=v.p:=by unfold pixB;dsimp only;omega
 have e2:(pixB v x y).y1-(pixB v x y).y0=v.p:=by unfold pixB;dsimp only;omega
 rw[e1,e2]
 rcases h.d with e|e
 ·refine⟨v.p,v.p,p1,p1,?_,?_⟩<;>rw[e]<;>simp
 ·have:=h.e e
  refine⟨v.p/2,v.p/2,by omega,by omega,?_,?_⟩<;>rw[e]<;>(show v.p=v.p/2*2;omega)
theorem yf8{v:Vw}(h:VwG v){y:Int}(hy:0<=y/\y<v.h):Fits (rowB v y):=by
 have w1:=h.w1
 have f0:=zu0 h (x:=0) ⟨by omega,by omega⟩ hy
 have f1:=zu0 h (x:=v.w-1) ⟨by omega,by omega⟩ hy
 obtain⟨a1,a2,a3⟩:=zyo h (x:=v.w-1) ⟨by omega,by omega⟩
 have p1:=h.p1
 refine⟨f0.x0,?_,f1.x1,f0.y0,?_,f1.y1⟩
 ·unfold rowB pixB;dsimp only;omega
 ·unfold rowB pixB;dsimp only;omega
theorem px_row{v:Vw}(h:VwG v){x y:Int}(hx:0<=x/\x<v.w)(hy:0<=y/\y<v.h):Sb (pixB v x y) (rowB v y):=by
 obtain⟨a1,a2,a3⟩:=zyo h hx
 have p1:=h.p1
 unfold rowB pixB
 exact⟨by dsimp only;omega,by dsimp only;omega,by dsimp only;omega,by dsimp only;omega,by dsimp only;omega,by dsimp only;omega⟩
def colN(v:Vw)(i:Nat):Int:=((i%v.w.toNat:Nat):Int)
def linN(v:Vw)(i:Nat):Int:=((i/v.w.toNat:Nat):Int)
def pxI(v:Vw)(i:Nat):B4:=pixB v (colN v i) (linN v i)
def grI(s:Shp)(v:Vw)(i:Nat):Shp:=zj3 (zj3 (znh s) (rowB v (linN v i))) (pxI v i)
def usI(most:Int)(s:Shp)(v:Vw)(a:Int):Nat->Int
 |0=>a
 |i+1=>(exF most v.d.toNat (grI s v i) (pxI v i) (usI most s v a i)).a
def exI(most:Int)(s:Shp)(v:Vw)(a:Int)(i:Nat):ExR:=exF most v.d.toNat (grI s v i) (pxI v i) (usI most s v a i)
def pxN(v:Vw):Nat:=v.h.toNat*v.w.toNat
theorem yms{v:Vw}(h:VwG v){x y:Nat}(hx:x<v.w.toNat):colN v (y*v.w.toNat+x)=(x:Int)/\linN v (y*v.w.toNat+x)=(y:Int):=by
 have w1:=h.w1
 have:0<v.w.toNat:=by omega
 unfold colN linN
 rw[Nat.mul_comm,Nat.mul_add_mod,Nat.mod_eq_of_lt hx,Nat.mul_add_div this,Nat.div_eq_of_lt hx,Nat.add_zero]
 exact⟨rfl,rfl⟩
theorem ygh{v:Vw}(h:VwG v){i:Nat}(hi:i<pxN v):(0<=colN v i/\colN v i<v.w)/\0<=linN v i/\linN v i<v.h:=by
 have w1:=h.w1
 have hw:0<v.w.toNat:=by omega
 have a1:=Nat.mod_lt i hw
 have a2:i/v.w.toNat<v.h.toNat:=Nat.div_lt_of_lt_mul (by rw[Nat.mul_comm];exact hi)
 unfold colN linN
 generalize i%v.w.toNat=q at *
 generalize i/v.w.toNat=r at *
 omega
theorem z2p{v:Vw}(h:VwG v){x y:Nat}(hx:x<v.w.toNat)(hy:y<v.h.toNat):y*v.w.toNat+x<pxN v:=by
 unfold pxN
 have:(y+1)*v.w.toNat<=v.h.toNat*v.w.toNat:=Nat.mul_le_mul_right _ hy
 rw[Nat.add_mul,Nat.one_mul]at this
 omega
theorem z92{v:Vw}(h:VwG v):pxN v<=64:=by
 unfold pxN
 have:=h.w2;have:=h.h2
 have:v.h.toNat*v.w.toNat<=8*8:=Nat.mul_le_mul (by omega) (by omega)
 omega
def cvI(s:Shp)(v:Vw)(i:Nat):Int×Int:=cnN (zb6 s) v.d.toNat (pxI v i)
theorem ex_ok{most:Int}(hm:most<=100000000){s:Shp}(hg:GoodN s){v:Vw}(h:VwG v){a:Int}(h0:0<=a):∀i,i<=pxN v->a+5*(i:Int)<=most->(a<=usI most s v a i/\usI most s v a i<=a+5*(i:Int))/\∀j,j<i->(exI most s v a j).lo=(cvI s v j).1/\(exI most s v a j).hi=(cvI s v j).2/\(exI most s v a j).e=0
 |0,_,_=>⟨⟨Int.le_refl _,by show a<=a+5*0;omega⟩,λj hj=>absurd hj (Nat.not_lt_zero j)⟩
 |i+1,hi,hb=>by
  obtain⟨⟨i1,i2⟩,i3⟩:=ex_ok hm hg h h0 i (by omega) (by omega)
  have hp:=ygh h (i:=i) (by omega)
  have st:stN v.d.toNat<=5:=by rcases h.d with e|e<;>rw[e]<;>decide
  have fr:=yf8 h hp.2
  have fp:=zu0 h hp.1 hp.2
  have sr:=px_row h hp.1 hp.2
  have k:ExOk (exI most s v a i) (cnN (zb6 (grI s v i)) v.d.toNat (pxI v i)) (usI most s v a i) (stN v.d.toNat):=
   yko hm v.d.toNat (by rcases h.d with e|e<;>rw[e]<;>decide) (grI s v i) (pxI v i) (usI most s v a i) (((hg.fil _).fil _).fil _) (ygi h hp.1 hp.2) (by omega) (by omega)
  have e:cnN (zb6 (grI s v i)) v.d.toNat (pxI v i)=cvI s v i:=by
   refine zqj _ _ (ygi h hp.1 hp.2) λq hq hf=>?_
   unfold grI
   rw[zvb (s:=zj3 (znh s) (rowB v (linN v i))) (b:=pxI v i) ((hg.fil _).fil _) fp hf hq,zvb (s:=znh s) (hg.fil _) fr hf (hq.trans sr),z9y hg hf]
  rw[e]at k
  have u1:usI most s v a (i+1)=(exI most s v a i).a:=rfl
  refine⟨⟨by rw[u1];have:=k.a1;omega,by rw[u1];have:=k.a2;omega⟩,λj hj=>?_⟩
  by_cases ej:j=i
  ·subst ej;exact⟨k.lo,k.hi,k.e⟩
  ·exact i3 j (by omega)
def dtyG(t:TypeId):Bool:=dtyO t||Nat.beq t 111||Nat.beq t 141
def nilV:Value:=.slice none 0 0
def slV(k n:Nat):Value:=.slice (some ⟨k,0,some 0⟩) n 0
noncomputable def tdGc:List Dyn.zb2:=[(54,en1D (qAnd qS PdS) λx=>.tup [dvX (zkr x).1,dvB (zkr x).2]),(55,en1D (qAnd qS PdS) λx=>rB (hbE x))]
noncomputable def yl3:Dyn.Tabs:=Dyn.tabs tbF tdGc noD dtyG
theorem z19:Dyn.zal Tryz.prog yl3:=Dyn.zb0 zcy (List.forall_mem_cons.2 ⟨zfe (zbl zgt) λx h=>ybx x h.1,List.forall_mem_cons.2 ⟨zfe (zbl zgt) λx h=>hb_all x h.1,λ_ h=>by cases h⟩⟩)
noncomputable def gcKp(sh:Nat->Sh)(i:Nat):Bool:=(zkr (sh i)).2
noncomputable def gcF(add:Nat->Bool)(sh:Nat->Sh)(n:Nat)(j:Nat):List Dyn.DC:=zbv (add (kIx (gcKp sh) n j)) (sh (kIx (gcKp sh) n j))
noncomputable def gcH(sh:Nat->Sh)(n:Nat)(j:Nat):List Dyn.DC:=extC (zkr (sh (kIx (gcKp sh) n j))).1 (hbE (sh (kIx (gcKp sh) n j)))
def gcS0(s:Sh)(F H:Nat->List Dyn.DC)(c:Nat)(i:Int):Dyn.St:=mkS 39 [(2,sL 1),(3,sL 2),(8,sH 0 0 s.n),(9,sI s.n),(10,sI i)] [some (.deep [.row s.n s.f]),some (.cells 111 [nilV,nilV]),some (.cells 111 [slV 3 c,slV 4 c]),some (.own 41 c F),some (.own 141 c H)]
def gcK:List Nat:=[2,3,8,9,10]
noncomputable def gcS(n:Nat)(add:Nat->Bool)(sh:Nat->Sh)(c:Nat)(i:Int):Dyn.St:=gcS0 (mkL n add sh) (gcF add sh n) (gcH sh n) c i
noncomputable def gcV(n:Nat)(add:Nat->Bool)(sh:Nat->Sh)(c i:Nat):Dyn.St:=gcS0 (mkL n add sh) (Dyn.appF c (gcF add sh n) (λ_=>zbv (add i) (sh i))) (Dyn.appF c (gcH sh n) (λ_=>extC (zkr (sh i)).1 (hbE (sh i)))) (c+1) (W (i+1))
noncomputable def gcLp(n:Nat)(add:Nat->Bool)(sh:Nat->Sh):Dyn.Lp:=λid st=>match id with
 |0=>some (.side [Dyn.nilCell 2 1 141 (gcH sh n) (Dyn.nilCell 2 0 41 (gcF add sh n) (zc2 39 [0,1,2] [] gcK (2 ^ 10) st))=gcS n add sh 0 0] (.leaf .normal (gcS n add sh (kN (gcKp sh) n) n)))
 |_=>none
noncomputable def gcB(n:Nat)(add:Nat->Bool)(sh:Nat->Sh)(c i:Nat):Dyn.Out:=
 .ite (decide ((i:Int)<(n:Int))) (.side [0<=(i:Int)/\(i:Int)<(n:Int)] (.side [PdS (sh i),zbz (sh i).l] (.ite (zkr (sh i)).2 (.side [szP 120 c] (.side [PdS (sh i),zbz (sh i).l,szP 40 c] (.leaf .normal (gcV n add sh c i)))) (.leaf .normal (gcS n add sh c (W (i+1))))))) (.leaf (.exit 0) (gcS n add sh c i))
theorem gc_B(n:Nat)(add:Nat->Bool)(sh:Nat->Sh)(c i:Nat):(Dyn.zbm Tryz.prog yl3 (gcLp n add sh) 3 (zab (blkD Tryz.f36.body 0)) .leaf (gcS n add sh c i)).rl (zfc 39 [0,1,2] [] [(2,0),(2,1)] gcK [] [])=gcB n add sh c i:=by kernel_rfl
theorem ybm:zam (zbx Tryz.f36.body)=[(0,.loop (zab (blkD Tryz.f36.body 0))),(1,blkD Tryz.f36.body 1)]:=by kernel_rfl
theorem gc_b0:zam (zab (blkD Tryz.f36.body 0))=[(1,blkD Tryz.f36.body 1)]:=by kernel_rfl
theorem yny(n:Nat)(add:Nat->Bool)(sh:Nat->Sh)(hn:n<=1000000000)(hP:∀i,i<n->PdS (sh i))(w0:Dyn.Base Tryz.prog)(st:Dyn.St)(o:Dyn.Out)(h:gcLp n add sh 0 st=some o):Dyn.zai Tryz.prog w0 0 (.loop (zab (blkD Tryz.f36.body 0))) st o:=by
 simp only[gcLp,Option.some.injEq]at h
 subst h
 refine zcc λhS=>?_
 refine za9 (fuel:=3) z19 mo (lp:=gcLp n add sh) (by rw[gc_b0];exact zaa (λs o h=>by cases h) zao) (λi (_:Unit)=>gcS n add sh (kN (gcKp sh) i) i) n (λ_ _=>()) () (zfc 39 [0,1,2] [] [(2,0),(2,1)] gcK [] []) (zed 39 _ _ _ _ _ _) (λi _=>gcB n add sh (kN (gcKp sh) i) i) (λi _=>gc_B n add sh (kN (gcKp sh) i) i) (λi hi=>?_) ?_ (hS▸((za0 39 _ _ _ _ st).trans (Dyn.Ent.nilCell (P:=Tryz.prog) (k:=10) (by kernel_rfl) _ _)).trans (Dyn.Ent.nilCell (P:=Tryz.prog) (k:=4) (by kernel_rfl) _ _))
 ·have hk:=yhi (gcKp sh) i
  refine⟨λ_=>⟨⟨⟨by omega,by omega⟩,trivial⟩,⟨hP i hi,zau _,trivial⟩,λhx=>⟨⟨zgn (by decide) (by omega),trivial⟩,⟨hP i hi,zau _,zgn (by decide) (by omega),trivial⟩,rfl,?_⟩,λhx=>⟨rfl,?_⟩⟩,λhf=>?_⟩
  ·unfold gcV
   rw[Wn1 hi hn,zry (gcKp sh) hx]
   have e:=z3l (gcKp sh) hx hi
   exact⟨rfl,Dyn.HeLe.refl _,Dyn.HeLe.refl _,Dyn.HeLe.refl _,zjv (by unfold gcF;rw[e]),zjv (by unfold gcH;rw[e]),trivial⟩
  ·rw[Wn1 hi hn,zvj (gcKp sh) hx];exact Dyn.Fits.refl _
  ·rw[decide_eq_false_iff_not]at hf
   exact absurd (show(i:Int)<(n:Int)by omega) hf
 ·refine⟨λht=>?_,λ_=>⟨rfl,Dyn.Fits.refl _⟩⟩
  rw[decide_eq_true_eq]at ht
  exact absurd (show(n:Int)<(n:Int)from ht) (by omega)
noncomputable def gcR(n:Nat)(add:Nat->Bool)(sh:Nat->Sh):Dyn.RV:=.val (dvG ⟨kN (gcKp sh) n,gcF add sh n,kN (gcKp sh) n,gcH sh n⟩)
theorem gc_O(n:Nat)(add:Nat->Bool)(sh:Nat->Sh):(Dyn.dfun Tryz.prog yl3 (gcLp n add sh) 3 Tryz.f36 [dvL (mkL n add sh)]).ro Tryz.prog Tryz.f36.results=.side [gcS n add sh 0 0=gcS n add sh 0 0] (.leaf (gcR n add sh)):=by kernel_rfl
theorem gc_lvl(n:Nat)(add:Nat->Bool)(sh:Nat->Sh)(hn:n<=1000000000)(hP:∀i,i<n->PdS (sh i)):Dyn.zav Tryz.prog 36 [dvL (mkL n add sh)] (gcR n add sh):=
 Dyn.zbs (lp:=gcLp n add sh) (fuel:=3) z19 mo Tryz.func36 (by kernel_rfl) (c:=zbx Tryz.f36.body) (by kernel_rfl)
  (λw0=>by rw[ybm];exact zaa (yny n add sh hn hP w0) (zaa (λs o h=>by cases h) zao))
  (by kernel_rfl) (gc_O n add sh) ⟨⟨rfl,trivial⟩,zby rfl⟩
theorem ybk:∀s:Shp,ShB s->Dyn.zav Tryz.prog 36 [dvL (toSh s)] (.val (dvG (toG (znh s)))):=by
 intro s h
 cases s with
 |nil=>exact h.elim
 |mk k a b c r l n add sub=>
  have q:=gc_lvl n add (λi=>toSh (sub i)) h.2.1 λi hi=>zl0 (h.2.2 i hi)
  unfold gcR gcF gcH at q
  have e:gcKp (λi=>toSh (sub i))=rchK (.mk k a b c r l n add sub):=funext λi=>by unfold gcKp rchK;rw[z3y];rfl
  rw[e]at q
  simp only[z3y,ybi]at q
  exact q
def gnKp(B:Nat->B4)(q:Nat->Bool)(b:B4)(i:Nat):Bool:=bif q i then true else !(zo3 (B i) b)
def gnF0(add:Nat->Bool)(sh:Nat->Sh)(i:Nat):List Dyn.DC:=zbv (add i) (sh i)
def gnH0(B:Nat->B4)(q:Nat->Bool)(i:Nat):List Dyn.DC:=extC (B i) (q i)
def gnF(add:Nat->Bool)(sh:Nat->Sh)(B:Nat->B4)(q:Nat->Bool)(b:B4)(n:Nat)(j:Nat):List Dyn.DC:=gnF0 add sh (kIx (gnKp B q b) n j)
def gnH(B:Nat->B4)(q:Nat->Bool)(b:B4)(n:Nat)(j:Nat):List Dyn.DC:=gnH0 B q (kIx (gnKp B q b) n j)
def yl2:Dyn.Tabs:=Dyn.tabs tbF [] noD dtyG
theorem z18:Dyn.zal Tryz.prog yl2:=Dyn.zb0 zcy (λ_ h=>by cases h)
def gnS0(n:Nat)(f h:Nat->List Dyn.DC)(b:B4)(F H:Nat->List Dyn.DC)(c:Nat)(i:Int):Dyn.St:=mkS 43 [(2,sL 1),(3,sL 2),(4,sL 3),(5,sL 4),(9,sH 0 1 n),(10,sI n),(11,sI i)]
 [some (.deep [.row n f,.row n h]),some (.cells 111 [.slice (some ⟨0,0,some 0⟩) n 0,.slice (some ⟨0,1,some 0⟩) n 0]),some (.cells 114 (bxV b)),some (.cells 111 [nilV,nilV]),some (.cells 111 [slV 5 c,slV 6 c]),some (.own 41 c F),some (.own 141 c H)]
def gnK:List Nat:=[2,3,4,5,9,10,11]
def gnS(n:Nat)(add:Nat->Bool)(sh:Nat->Sh)(B:Nat->B4)(q:Nat->Bool)(b:B4)(c:Nat)(i:Int):Dyn.St:=gnS0 n (gnF0 add sh) (gnH0 B q) b (gnF add sh B q b n) (gnH B q b n) c i
def gnV(n:Nat)(add:Nat->Bool)(sh:Nat->Sh)(B:Nat->B4)(q:Nat->Bool)(b:B4)(c i:Nat):Dyn.St:=gnS0 n (gnF0 add sh) (gnH0 B q) b (Dyn.appF c (gnF add sh B q b n) (λ_=>gnF0 add sh i)) (Dyn.appF c (gnH B q b n) (λ_=>gnH0 B q i)) (c+1) (W (i+1))
def gnLp(n:Nat)(add:Nat->Bool)(sh:Nat->Sh)(B:Nat->B4)(q:Nat->Bool)(b:B4):Dyn.Lp:=λid st=>match id with
 |0=>some (.side [Dyn.nilCell 4 1 141 (gnH B q b n) (Dyn.nilCell 4 0 41 (gnF add sh B q b n) (zc2 43 [0,1,2,3,4] [] gnK (2 ^ 11) st))=gnS n add sh B q b 0 0] (.leaf .normal (gnS n add sh B q b (kN (gnKp B q b) n) n)))
 |_=>none
def gnB(n:Nat)(add:Nat->Bool)(sh:Nat->Sh)(B:Nat->B4)(q:Nat->Bool)(b:B4)(c i:Nat):Dyn.Out:=
 .ite (decide ((i:Int)<(n:Int))) (.side [0<=(i:Int)/\(i:Int)<(n:Int)] (.ite (gnKp B q b i) (.side [0<=(i:Int)/\(i:Int)<(n:Int),szP 120 c] (.side [szP 40 c] (.leaf .normal (gnV n add sh B q b c i)))) (.leaf .normal (gnS n add sh B q b c (W (i+1)))))) (.leaf (.exit 0) (gnS n add sh B q b c i))
theorem gn_B(n:Nat)(add:Nat->Bool)(sh:Nat->Sh)(B:Nat->B4)(q:Nat->Bool)(b:B4)(c i:Nat):(Dyn.zbm Tryz.prog yl2 (gnLp n add sh B q b) 3 (zab (blkD Tryz.f38.body 0)) .leaf (gnS n add sh B q b c i)).rl (zfc 43 [0,1,2,3,4] [] [(4,0),(4,1)] gnK [] [])=gnB n add sh B q b c i:=by kernel_rfl
theorem ybl:zam (zbx Tryz.f38.body)=[(0,.loop (zab (blkD Tryz.f38.body 0))),(1,blkD Tryz.f38.body 1)]:=by kernel_rfl
theorem gn_b0:zam (zab (blkD Tryz.f38.body 0))=[(1,blkD Tryz.f38.body 1)]:=by kernel_rfl
theorem ynx(n:Nat)(add:Nat->Bool)(sh:Nat->Sh)(B:Nat->B4)(q:Nat->Bool)(b:B4)(hn:n<=1000000000)(w0:Dyn.Base Tryz.prog)(st:Dyn.St)(o:Dyn.Out)(h:gnLp n add sh B q b 0 st=some o):Dyn.zai Tryz.prog w0 0 (.loop (zab (blkD Tryz.f38.body 0))) st o:=by
 simp only[gnLp,Option.some.injEq]at h
 subst h
 refine zcc λhS=>?_
 refine za9 (fuel:=3) z18 mo (lp:=gnLp n add sh B q b) (by rw[gn_b0];exact zaa (λs o h=>by cases h) zao) (λi (_:Unit)=>gnS n add sh B q b (kN (gnKp B q b) i) i) n (λ_ _=>()) () (zfc 43 [0,1,2,3,4] [] [(4,0),(4,1)] gnK [] []) (zed 43 _ _ _ _ _ _) (λi _=>gnB n add sh B q b (kN (gnKp B q b) i) i) (λi _=>gn_B n add sh B q b (kN (gnKp B q b) i) i) (λi hi=>?_) ?_ (hS▸((za0 43 _ _ _ _ st).trans (Dyn.Ent.nilCell (P:=Tryz.prog) (k:=10) (by kernel_rfl) _ _)).trans (Dyn.Ent.nilCell (P:=Tryz.prog) (k:=4) (by kernel_rfl) _ _))
 ·have hk:=yhi (gnKp B q b) i
  refine⟨λ_=>⟨⟨⟨by omega,by omega⟩,trivial⟩,λhx=>⟨⟨⟨by omega,by omega⟩,zgn (by decide) (by omega),trivial⟩,⟨zgn (by decide) (by omega),trivial⟩,rfl,?_⟩,λhx=>⟨rfl,?_⟩⟩,λhf=>?_⟩
  ·unfold gnV
   rw[Wn1 hi hn,zry (gnKp B q b) hx]
   have e:=z3l (gnKp B q b) hx hi
   exact⟨rfl,Dyn.HeLe.refl _,Dyn.HeLe.refl _,Dyn.HeLe.refl _,Dyn.HeLe.refl _,Dyn.HeLe.refl _,zjv (by unfold gnF;rw[e]),zjv (by unfold gnH;rw[e]),trivial⟩
  ·rw[Wn1 hi hn,zvj (gnKp B q b) hx];exact Dyn.Fits.refl _
  ·rw[decide_eq_false_iff_not]at hf
   exact absurd (show(i:Int)<(n:Int)by omega) hf
 ·refine⟨λht=>?_,λ_=>⟨rfl,Dyn.Fits.refl _⟩⟩
  rw[decide_eq_true_eq]at ht
  exact absurd (show(n:Int)<(n:Int)from ht) (by omega)
def gnR(n:Nat)(add:Nat->Bool)(sh:Nat->Sh)(B:Nat->B4)(q:Nat->Bool)(b:B4):Dyn.RV:=.val (dvG ⟨kN (gnKp B q b) n,gnF add sh B q b n,kN (gnKp B q b) n,gnH B q b n⟩)
theorem gn_O(n:Nat)(add:Nat->Bool)(sh:Nat->Sh)(B:Nat->B4)(q:Nat->Bool)(b:B4):(Dyn.dfun Tryz.prog yl2 (gnLp n add sh B q b) 3 Tryz.f38 [dvG ⟨n,gnF0 add sh,n,gnH0 B q⟩,dvX b]).ro Tryz.prog Tryz.f38.results=.side [gnS n add sh B q b 0 0=gnS n add sh B q b 0 0] (.leaf (gnR n add sh B q b)):=by kernel_rfl
theorem gn_lvl(n:Nat)(add:Nat->Bool)(sh:Nat->Sh)(B:Nat->B4)(q:Nat->Bool)(b:B4)(hn:n<=1000000000):Dyn.zav Tryz.prog 38 [dvG ⟨n,gnF0 add sh,n,gnH0 B q⟩,dvX b] (gnR n add sh B q b):=
 Dyn.zbs (lp:=gnLp n add sh B q b) (fuel:=3) z18 mo Tryz.func38 (by kernel_rfl) (c:=zbx Tryz.f38.body) (by kernel_rfl)
  (λw0=>by rw[ybl];exact zaa (ynx n add sh B q b hn w0) (zaa (λs o h=>by cases h) zao))
  (by kernel_rfl) (gn_O n add sh B q b) ⟨⟨rfl,trivial⟩,zby rfl⟩
theorem ygv(s:Shp)(h:nuO s<=1000000000)(b:B4):Dyn.zav Tryz.prog 38 [dvG (toG s),dvX b] (.val (dvG (toG (zj3 s b)))):=
 gn_lvl (nuO s) (adO s) (λi=>toSh (suO s i)) (λi=>(zdf (suO s i)).1) (λi=>hbF (suO s i)) b h
def PdG(x:Gr):Prop:=PdS (obX x.n x.f)/\x.m=x.n/\∀i,i<x.n->x.h i=extC (zdf (suO (ofG x) i)).1 (hbF (suO (ofG x) i))
theorem ykz{s:Shp}(h:ShB (lst s)):PdG (toG s):=by
 refine⟨zl0 (s:=lst s) h,rfl,λi hi=>?_⟩
 rw[zu7];rfl
theorem obX_nu{n:Nat}{f:Nat->List Dyn.DC}(h:PdS (obX n f)):nuO (ofSh (obX n f))=n/\∀i,i<n->f i=zbv (adO (ofSh (obX n f)) i) (toSh (suO (ofSh (obX n f)) i)):=by
 have k:=h.2
 cases e:ofSh (obX n f)with
 |nil=>have:=h.1;rw[e]at this;exact this.elim
 |mk k' a b c r l m add sub=>
  rw[e]at k
  obtain⟨_,_,_,_,_,_,k7,k8⟩:=k
  have k7:n=m:=k7
  exact⟨k7.symm,λi hi=>k8 i hi⟩
theorem PdG.le{x:Gr}(h:PdG x):Dyn.DVLe (dvG x) (dvG (toG (ofG x))):=by
 have k:=obX_nu h.1
 exact⟨⟨k.1.symm,k.2⟩,⟨h.2.1.trans k.1.symm,λi hi=>h.2.2 i (by rw[←h.2.1];exact hi)⟩,trivial⟩
theorem PdG.B{x:Gr}(h:PdG x):ShB (ofG x):=h.1.1
theorem lst_B{s:Shp}(h:ShB s):ShB (lst s):=by
 cases s with
 |nil=>exact h.elim
 |mk k a b c r l n add sub=>exact⟨zex,h.2.1,h.2.2⟩
theorem fil_B{s:Shp}(h:ShB s)(keep:Nat->Bool):ShB (filL keep s):=by
 cases s with
 |nil=>exact h.elim
 |mk k a b c r l n add sub=>
  refine⟨zex,Nat.le_trans (yhi keep n) h.2.1,λi hi=>?_⟩
  exact h.2.2 _ (zt3 keep hi).1
theorem ShB_nu{s:Shp}(h:ShB s):nuO s<=1000000000:=by
 cases s with
 |nil=>exact h.elim
 |mk k a b c r l n add sub=>exact h.2.1
noncomputable def ze7(x:Gr)(b:B4):Gr:=toG (zj3 (ofG x) b)
theorem zqb{x:Gr}(h:PdG x)(b:B4):PdG (ze7 x b):=ykz (lst_B (fil_B h.B _))
theorem zr5(x:Gr)(h:PdG x)(b:B4):Dyn.zav Tryz.prog 38 [dvG x,dvX b] (.val (dvG (ze7 x b))):=
 zc5 (args:=[dvG (toG (ofG x)),dvX b]) ⟨h.le,Dyn.DVLe.refl _,trivial⟩ (ygv (ofG x) (ShB_nu h.B) b)
noncomputable def zju(x:Sh):Gr:=toG (znh (ofSh x))
theorem z9z{x:Sh}(h:PdS x):PdG (zju x):=ykz (lst_B (fil_B h.1 _))
theorem z57(x:Sh)(h:PdS x):Dyn.zav Tryz.prog 36 [dvL x] (.val (dvG (zju x))):=
 zc5 (args:=[dvL (toSh (ofSh x))]) ⟨SLe.dvL h.2,trivial⟩ (ybk (ofSh x) h.1)
theorem zw4{P:Program}{K:Nat}{fn:Func}(hf:P.funcs[K]? = some fn)(hn:(fn.name=="runtime.NumGoroutine")=false)(hb:fn.body.isSome=true){us:Array Value}{w:World}:(callFunc K us).run P w=.ok (.enter K us) w:=by
 obtain⟨c,hc⟩:=Option.isSome_iff_exists.1 hb
 unfold callFunc
 simp only[Sem.run_bind,run_program,Result.andThen_ok,hf,hn,hc]
 simp
theorem z6p{P:Program}{K:Nat}{fn:Func}(hf:P.funcs[K]? = some fn)(hn:(fn.name=="runtime.NumGoroutine")=false)(hb:fn.body.isSome=true){az:List Dyn.LA}{lent:Dyn.Lent}{u:Value}{out:List (List Value)}
  (h:∀(w:World) (F:Nat->Prop) (bs:List Nat) (us:List Value),Dyn.zjz w bs lent->Dyn.zj0 w F bs az us->Calls P K us.toArray w λe w''=>e=.returned u/\Dyn.zjn w w'' bs (Dyn.zipL lent out)):Dyn.zlq P K az lent u out:=by
 intro w F bs us hF hnd hdis hla hden
 rw[zw4 hf hn hb]
 exact⟨rfl,h w F bs us hla hden⟩
theorem cell0{w:World}{b:Nat}{t:TypeId}{m a:Value}(h:w.heap[b]? = some (.cells [m,a].toArray t (0,0))):w.cell? ⟨b,0,none⟩=some m:=by simp[World.cell?,h]
theorem cell1{w:World}{b:Nat}{t:TypeId}{m a:Value}(h:w.heap[b]? = some (.cells [m,a].toArray t (0,0))):w.cell? ⟨b,1,none⟩=some a:=by simp[World.cell?,h]
theorem froz1{w:World}{b i:Nat}{t:TypeId}{m a:Value}(h:w.heap[b]? = some (.cells [m,a].toArray t (0,0))):w.frozen? ⟨b,i,none⟩=false:=by simp[World.frozen?,h]
theorem set1{w:World}{b:Nat}{t:TypeId}{m a v:Value}(h:w.heap[b]? = some (.cells [m,a].toArray t (0,0))):(w.setCell ⟨b,1,none⟩ v).heap[b]? = some (.cells [m,v].toArray t (0,0)):=by
 simp[World.setCell,Array.getElem?_modify,h]
theorem setO{w:World}{b k i:Nat}{v:Value}(h:k≠b):(w.setCell ⟨b,i,none⟩ v).heap[k]? = w.heap[k]?:=by
 simp[World.setCell,Array.getElem?_modify,Ne.symm h]
theorem ygl{w w2:World}{b:Nat}{t:TypeId}{m a v:Value}(h:w.heap[b]? = some (.cells [m,a].toArray t (0,0)))(h1:w2.heap=(w.setCell ⟨b,1,none⟩ v).heap)(h2:w2.os=w.os)(h3:w2.tape=w.tape)(h4:w2.output=w.output):Dyn.zjn w w2 [b] [(t,[m,v])]:=
 ⟨h2,h3,h4,by rw[h1,World.size_setCell];exact Nat.le_refl _,λk _ hk=>by rw[h1];exact setO (by simpa using hk),by rw[h1];exact set1 h,trivial⟩
theorem lent1{w:World}{F:Nat->Prop}{bs:List Nat}{us:List Value}{t:TypeId}{cs:List Value}{off:Nat}{l:List Dyn.LA}(hla:Dyn.zjz w bs [(t,cs)])(hden:Dyn.zj0 w F bs (.lp 0 off::l) us):∃b vs,bs=[b]/\w.heap[b]? = some (.cells cs.toArray t (0,0))/\us=.pointer (some ⟨b,off,none⟩)::vs/\Dyn.zj0 w F [b] l vs:=by
 match bs,hla with
 |[b],hla=>
  match us,hden with
  |u::vs,hden=>
   obtain⟨⟨b',h1,h2⟩,h3⟩:=hden
   simp only[List.getElem?_cons_zero,Option.some.injEq]at h1
   subst h1;subst h2
   exact⟨b,vs,rfl,hla.1,rfl,h3⟩
def capM(x:Int):Int:=imax 0 (imin x 100000000)
theorem capM_1{x:Int}(h:100000000<x):capM x=100000000:=by unfold capM imax imin;repeat' split<;>omega
theorem ykt{x:Int}(h:x<=100000000)(h2:0<x):capM x=x:=by unfold capM imax imin;repeat' split<;>omega
theorem capM_3{x:Int}(h:x<=0):capM x=0:=by unfold capM imax imin;repeat' split<;>omega
theorem yhk(w:World)(o:Obj):(w.alloc o).heap[w.heap.size]? = some o:=by
 show(w.heap.push o)[w.heap.size]? = some o
 rw[Array.getElem?_push,if_pos rfl]
theorem zva(x:Int)(w:World):Calls Tryz.prog 20 #[vi x] w λe w'=>e=.returned (.pointer (some ⟨w.heap.size,0,none⟩))/\w'=w.alloc (.cells #[vi (capM x),vi 0] 107):=by
 go_enter Tryz.func20,Tryz.ntmps20
 go_wp2
 all_goals simp[bodyPost,results,Tryz.results20,go_sem]
 ·rw[capM_1 h]
 ·rename_i h2;rw[ykt h2 h]
 ·rw[capM_3 h]
def nwM(K:Nat):Option (Value->Option (TypeId×List Value)):=bif Nat.beq K 20 then some (λv=>match v with
 |.int .i64 x=>some (107,[vi (capM x),vi 0])
 |_=>none)else none
theorem ykb:∀K f,nwM K=some f->Dyn.NewP Tryz.prog K f:=λK f h u t cs hf w=>by
 unfold nwM at h
 cases hk:Nat.beq K 20 with
 |false=>rw[hk]at h;cases h
 |true=>
  rw[hk]at h
  have e:=Nat.eq_of_beq_eq_true hk
  subst e
  simp only[cond_true,Option.some.injEq]at h
  subst h
  dsimp only at hf
  split at hf
  ·rename_i x
   simp only[Option.some.injEq,Prod.mk.injEq]at hf
   obtain⟨rfl,rfl⟩:=hf
   rw[zw4 Tryz.func20 (by kernel_rfl) (by kernel_rfl)]
   refine⟨rfl,(zva x w).mono ?_⟩
   rintro e w'' ⟨rfl,rfl⟩
   refine⟨w.heap.size,rfl,yhk w _,Nat.le_refl _,by rw[World.size_alloc];omega,rfl,rfl,rfl,by rw[World.size_alloc];omega,λk hk=>?_⟩
   simp only[World.alloc,Array.getElem?_push]
   rw[if_neg (by omega)]
  ·cases hf
theorem ymj{P:Program}(a d:Int)(w:World):(Op.intArith .add .i64 a d).run P w=.ok (.int .i64 (W (a+d))) w:=rfl
theorem yip(b:Nat)(m a d:Int)(t:TypeId)(w:World)(h:w.heap[b]? = some (.cells [vi m,vi a].toArray t (0,0))):Calls Tryz.prog 71 #[.pointer (some ⟨b,1,none⟩),vi d] w λe w'=>e=.returned (vi (W (a+d)))/\w'=w.setCell ⟨b,1,none⟩ (vi (W (a+d))):=by
 have hc:w.cell? ⟨b,1,none⟩=some (.int .i64 a):=cell1 h
 have hz:w.frozen? ⟨b,1,none⟩=false:=froz1 h
 have hadd:=run_call_add (P:=Tryz.prog) Tryz.func87 (by kernel_rfl) (by kernel_rfl) (by kernel_rfl) .i64 (by kernel_rfl) (y:=d) (s:=W (a+d)) hc hz (ymj a d w)
 go_enter Tryz.func71,Tryz.ntmps71
 go_wp2
 simp[bodyPost,results,Tryz.results71,go_sem]
set_option maxHeartbeats 4000000 in
theorem z8m(b:Nat)(m a:Int)(t:TypeId)(w:World)(h:w.heap[b]? = some (.cells [vi m,vi a].toArray t (0,0))):Calls Tryz.prog 57 #[.pointer (some ⟨b,0,none⟩)] w λe w'=>e=.returned (vb (decide (W (a+1)<=m)))/\Dyn.zjn w w' [b] [(t,[vi m,vi (W (a+1))])]:=by
 have c0:w.cell? ⟨b,0,none⟩=some (.int .i64 m):=cell0 h
 have c1:w.cell? ⟨b,1,none⟩=some (.int .i64 a):=cell1 h
 go_enter Tryz.func57,Tryz.ntmps57
 go_wp2
 have c0':∀v:Value,(w.drew.setCell ⟨b,1,none⟩ v).cell? ⟨b,0,none⟩=some (.int .i64 m):=λv=>by rw[World.cell?_setCell_other _ _ _ _ (by simp)];exact c0
 go_region_with (go_at_call 71;refine(yip b m a 1 t w.drew h).mono ?_;rintro e w'' ⟨rfl,rfl⟩)
 all_goals go_wp2
 all_goals simp[bodyPost,results,Tryz.results57,go_sem]
 all_goals exact ygl h rfl rfl rfl rfl
theorem take_x(m a:Int):Dyn.zlq Tryz.prog 57 [.lp 0 0] [(107,[vi m,vi a])] (vb (decide (W (a+1)<=m))) [[vi m,vi (W (a+1))]]:=
 z6p Tryz.func57 (by kernel_rfl) (by kernel_rfl) λw F bs us hla hden=>by
  obtain⟨b,vs,rfl,hb,rfl,hd⟩:=lent1 hla hden
  cases vs with
  |nil=>exact z8m b m a _ w hb
  |cons v vs=>exact hd.elim
def mtL(most a:Int):Dyn.Lent:=[(107,[vi most,vi a])]
def mtO(most a:Int):List (List Value):=[[vi most,vi a]]
def exV(lo hi e:Int):Value:=.tuple ⟨[.agg ⟨[vi lo,vi hi]⟩,vi e]⟩
def z30:List Dyn.LA->Dyn.Lent->Option (Value×List (List Value)×List Prop)
 |[.lp 0 0],[(t,[.int .i64 most,.int .i64 a])]=>match Nat.beq t 107 with
  |true=>some (vb (decide (W (a+1)<=most)),mtO most (W (a+1)),[])
  |false=>none
 |_,_=>none
theorem zyi:Dyn.zjo Tryz.prog (57,z30):=λaz lent u out ps h hp=>by
 dsimp only at h
 unfold z30 at h
 split at h
 ·rename_i t most a
  split at h
  ·rename_i ht
   have e1:=Nat.eq_of_beq_eq_true ht
   subst e1
   simp only[Option.some.injEq,Prod.mk.injEq]at h
   obtain⟨rfl,rfl,rfl⟩:=h
   exact take_x most a
  ·cases h
 ·cases h
theorem zzf{P:Program}{K:Nat}{u u' v v':Dyn.DV}{l:List Dyn.LA}{lent:Dyn.Lent}{r:Value}{o:List (List Value)}(h1:Dyn.DVLe u u')(h2:Dyn.DVLe v v')(k:Dyn.zlq P K (.d u'::.d v'::l) lent r o):Dyn.zlq P K (.d u::.d v::l) lent r o:=λw F bs us hF hn hd hl hden=>k w F bs us hF hn hd hl (by
 cases us with
 |nil=>exact hden
 |cons x us=>
  cases us with
  |nil=>exact⟨Dyn.zjp h1 hden.1,hden.2⟩
  |cons y us=>exact⟨Dyn.zjp h1 hden.1,Dyn.zjp h2 hden.2.1,hden.2.2⟩)
abbrev ExF:=Gr->B4->Int->Int->ExR
def yb8(k:Int)(F:ExF):List Dyn.LA->Dyn.Lent->Option (Value×List (List Value)×List Prop)
 |[.d g,.d u,.d (.one (.p (.int .i64 d))),.lp 0 0],[(t,[.int .i64 most,.int .i64 a])]=>match qG g,aX u,decide (d=k),Nat.beq t 107 with
  |some (x,_),some b,true,true=>some (exV (F x b most a).lo (F x b most a).hi (F x b most a).e,mtO most (F x b most a).a,[PdG x])
  |_,_,_,_=>none
 |_,_=>none
def zl1(k:Int)(F:ExF):Prop:=∀x,PdG x->∀b most a,Dyn.zlq Tryz.prog 39 [.d (dvG x),.d (dvX b),.d (dvI k),.lp 0 0] (mtL most a) (exV (F x b most a).lo (F x b most a).hi (F x b most a).e) (mtO most (F x b most a).a)
theorem yb7{k:Int}{F:ExF}(ih:zl1 k F):Dyn.zjo Tryz.prog (39,yb8 k F):=λaz lent u out ps h hp=>by
 dsimp only at h
 unfold yb8 at h
 split at h
 ·rename_i g u' d t most a
  split at h
  ·rename_i x ps' b hg hb hd ht
   have e1:=Nat.eq_of_beq_eq_true ht
   subst e1
   have e2:=of_decide_eq_true hd
   subst e2
   simp only[Option.some.injEq,Prod.mk.injEq]at h
   obtain⟨rfl,rfl,rfl⟩:=h
   have q:=z91 _ _ _ hg (by
    unfold qG at hg;split at hg
    ·simp only[Option.some.injEq,Prod.mk.injEq]at hg
     rw[←hg.2];trivial
    ·cases hg)
   exact zzf q.1 (yde hb) (ih x hp.1 b most a)
  ·cases h
 ·cases h
noncomputable def tdEx:List Dyn.zb2:=[(58,en2D (qAnd qL PdS) qX λx b=>rI (zrg (ofSh x) b)),(38,en2D (qAnd qG PdG) qX λx b=>.val (dvG (ze7 x b)))]
def drEx(K:Nat):Bool:=Nat.beq K 38||Nat.beq K 39||Nat.beq K 57
noncomputable def tabEx(k:Int)(F:ExF):Dyn.Tabs:=Dyn.z4v tbF tdEx [(57,z30),(39,yb8 k F)] drEx dtyG false
theorem yfr{k:Int}{F:ExF}(ih:zl1 k F):Dyn.zal Tryz.prog (tabEx k F):=
 Dyn.zna zcy (List.forall_mem_cons.2 ⟨zgc (zbl z5a) zuz λx b h _=>ztr x h.1 b,List.forall_mem_cons.2 ⟨zgc (zbl z91) zuz λx b h _=>zr5 x h.1 b,λ_ h=>by cases h⟩⟩) (List.forall_mem_cons.2 ⟨zyi,List.forall_mem_cons.2 ⟨yb7 ih,λ_ h=>by cases h⟩⟩)
noncomputable def clsE(x:Gr)(b:B4):Int:=zrg (ofSh (obX x.n x.f)) b
noncomputable def exC(F:ExF)(x:Gr)(b:B4)(most:Int)(i:Nat)(a:Int):ExR:=F (ze7 x (spB b i)) (spB b i) most a
noncomputable def exS(x:Gr)(b:B4)(i:Nat):List Prop:=[PdG x,PdG (ze7 x (spB b i))]
noncomputable def exQO(F:ExF)(x:Gr)(b:B4)(most a:Int):Dyn.RX:=
 let r0:=exC F x b most 0 a
 let r1:=exC F x b most 1 r0.a
 let r2:=exC F x b most 2 r1.a
 let r3:=exC F x b most 3 r2.a
 .side (exS x b 0) (.ite (r0.e != 0) (.leaf (exV 0 0 r0.e) (mtO most r0.a))
 (.side (exS x b 1) (.ite (r1.e != 0) (.leaf (exV 0 0 r1.e) (mtO most r1.a))
 (.side (exS x b 2) (.ite (r2.e != 0) (.leaf (exV 0 0 r2.e) (mtO most r2.a))
 (.side (exS x b 3) (.ite (r3.e != 0) (.leaf (exV 0 0 r3.e) (mtO most r3.a))
  (.leaf (exV (W (W (W (W (0+r0.lo)+r1.lo)+r2.lo)+r3.lo)) (W (W (W (W (0+r0.hi)+r1.hi)+r2.hi)+r3.hi)) 0) (mtO most r3.a)))))))))
noncomputable def exO(d:Nat)(Q:Dyn.RX)(x:Gr)(b:B4)(most a:Int):Dyn.RX:=
 .ite (!(decide (W (a+1)<=most))) (.leaf (exV 0 0 6) (mtO most (W (a+1))))
 (.side [PdS (obX x.n x.f)] (.ite (clsE x b==0) (.leaf (exV 0 0 0) (mtO most (W (a+1))))
 (.ite (clsE x b==2) (.side [(0:Int)<=W (2*(d:Int))] (.leaf (exV (zci d) (zci d) 0) (mtO most (W (a+1)))))
 (.ite ((d:Int)==0) (.leaf (exV 0 1 0) (mtO most (W (a+1)))) Q))))
noncomputable def tabE0:Dyn.Tabs:=Dyn.z4v tbF tdEx [(57,z30)] drEx dtyG false
theorem yfs:Dyn.zal Tryz.prog tabE0:=
 Dyn.zna zcy (List.forall_mem_cons.2 ⟨zgc (zbl z5a) zuz λx b h _=>ztr x h.1 b,List.forall_mem_cons.2 ⟨zgc (zbl z91) zuz λx b h _=>zr5 x h.1 b,λ_ h=>by cases h⟩⟩) (List.forall_mem_cons.2 ⟨zyi,λ_ h=>by cases h⟩)
theorem ex_O0(x:Gr)(b:B4)(most a:Int):(Dyn.zsd Tryz.prog tabE0 Dyn.noLp 8 Tryz.f39 (mtL most a) [.d (dvG x),.d (dvX b),.d (dvI 0),.lp 0 0]).rx Tryz.prog (mtL most a) Tryz.f39.results=exO 0 .fail x b most a:=by kernel_rfl
theorem ex_O1(F:ExF)(x:Gr)(b:B4)(most a:Int):(Dyn.zsd Tryz.prog (tabEx 0 F) Dyn.noLp 8 Tryz.f39 (mtL most a) [.d (dvG x),.d (dvX b),.d (dvI 1),.lp 0 0]).rx Tryz.prog (mtL most a) Tryz.f39.results=exO 1 (exQO F x b most (W (a+1))) x b most a:=by kernel_rfl
noncomputable def exE(d:Nat):ExF:=λx b most a=>exF most d (ofG x) b a
theorem exE_z(x:Gr)(b:B4)(most a:Int):exE 0 x b most a=exT most (clsE x b) (zci 0) (λa=>⟨0,1,0,a⟩) a:=by
 unfold exE clsE exF
 rw[←z2z];rfl
theorem yb0(most:Int)(d:Nat)(s:Shp):exF most d (lst s)=exF most d s:=by cases d<;>rfl
theorem exE_s(d:Nat)(x:Gr)(b:B4)(most a:Int):exE (d+1) x b most a=exT most (clsE x b) (zci (d+1)) (exQ (λq a=>exE d (ze7 x q) q most a) b) a:=by
 unfold exE clsE ze7
 simp only[zu7,yb0]
 rw[show zrg (ofSh (obX x.n x.f)) b=zb6 (ofSh (obX x.n x.f)) b from z2z _ _]
 rfl
theorem ybz{d:Nat}{x:Gr}{b:B4}{most a:Int}{Q:Dyn.RX}{m:Int->ExR}(hx:PdG x)(h:(d:Int)=0->m (W (a+1))=⟨0,1,0,W (a+1)⟩)(hQ:(d:Int)≠0->Q.sat λu os=>u=exV (m (W (a+1))).lo (m (W (a+1))).hi (m (W (a+1))).e/\os=mtO most (m (W (a+1))).a)(hd:d<=7) :
  (exO d Q x b most a).sat λu os=>u=exV (exT most (clsE x b) (zci d) m a).lo (exT most (clsE x b) (zci d) m a).hi (exT most (clsE x b) (zci d) m a).e/\os=mtO most (exT most (clsE x b) (zci d) m a).a:=by
 unfold exT
 refine⟨λh1=>?_,λh1=>⟨⟨hx.1,trivial⟩,λh2=>?_,λh2=>⟨λh3=>⟨⟨?_,trivial⟩,?_⟩,λh3=>⟨λh4=>?_,λh4=>?_⟩⟩⟩⟩
 ·rw[h1];exact⟨rfl,rfl⟩
 ·rw[h1,h2];exact⟨rfl,rfl⟩
 ·rw[W_id (by omega) (by omega)];omega
 ·rw[h1,h2,h3];exact⟨rfl,rfl⟩
 ·rw[h1,h2,h3]
  have:=h (by simpa using h4)
  simp only[cond_false]
  rw[this];exact⟨rfl,rfl⟩
 ·rw[h1,h2,h3]
  exact hQ (by simpa using h4)
theorem yn4(F:ExF){x:Gr}(hx:PdG x)(b:B4)(most a:Int):(exQO F x b most a).sat λu os=>u=exV (exQ (λq a=>F (ze7 x q) q most a) b a).lo (exQ (λq a=>F (ze7 x q) q most a) b a).hi (exQ (λq a=>F (ze7 x q) q most a) b a).e/\os=mtO most (exQ (λq a=>F (ze7 x q) q most a) b a).a:=by
 have pd:∀i,Sym.allP (exS x b i):=λi=>⟨hx,zqb hx _,trivial⟩
 unfold exQ
 refine⟨pd 0,λh0=>?_,λh0=>⟨pd 1,λh1=>?_,λh1=>⟨pd 2,λh2=>?_,λh2=>⟨pd 3,λh3=>?_,λh3=>?_⟩⟩⟩⟩
 all_goals unfold exC at *
 ·rw[h0];exact⟨rfl,rfl⟩
 ·rw[h0,h1];exact⟨rfl,rfl⟩
 ·rw[h0,h1,h2];exact⟨rfl,rfl⟩
 ·rw[h0,h1,h2,h3];exact⟨rfl,rfl⟩
 ·rw[h0,h1,h2,h3];exact⟨rfl,rfl⟩
theorem exam0:zl1 0 (exE 0):=λx hx b most a=>by
 rw[exE_z]
 exact Dyn.zm3 (lp:=Dyn.noLp) (fuel:=8) yfs mo Tryz.func39 (by kernel_rfl) (c:=zbx Tryz.f39.body) (by kernel_rfl) (λw0=>Dyn.zcl _ w0) (by kernel_rfl) (by kernel_rfl) (by kernel_rfl) (ex_O0 x b most a) (ybz (d:=0) hx (λ_=>rfl) (λh=>absurd rfl h) (by decide))
theorem exam1:zl1 1 (exE 1):=λx hx b most a=>by
 rw[exE_s]
 exact Dyn.zm3 (lp:=Dyn.noLp) (fuel:=8) (yfr exam0) mo Tryz.func39 (by kernel_rfl) (c:=zbx Tryz.f39.body) (by kernel_rfl) (λw0=>Dyn.zcl _ w0) (by kernel_rfl) (by kernel_rfl) (by kernel_rfl) (ex_O1 (exE 0) x b most a) (ybz (d:=1) hx (λh=>absurd h (by decide)) (λ_=>yn4 (exE 0) hx b most _) (by decide))
def gdF(g:Bool)(ps:List Prop):Prop:=some g=some false/\True->Sym.allP ps
theorem z3q{g:Bool}{ps:List Prop}(h:Sym.allP ps):gdF g ps:=λ_=>h
def cvM(d:Int):Int:=W (1*2 ^ min d.toNat IntKind.i64.bits)
def cV(v:Vw):List Dyn.DC:=[cI v.x,cI v.y,cI v.p,cI v.w,cI v.h,cI v.d]
def dvV(v:Vw):Dyn.DV:=.agg (cV v)
def aV:Dyn.DV->Option Vw
 |.agg [.p (.int .i64 a),.p (.int .i64 b),.p (.int .i64 c),.p (.int .i64 d),.p (.int .i64 e),.p (.int .i64 f)]=>some ⟨a,b,c,d,e,f⟩
 |_=>none
theorem ydf{d:Dyn.DV}{x:Vw}(h:aV d=some x):Dyn.DVLe d (dvV x):=by
 unfold aV at h;split at h
 ·simp only[Option.some.injEq]at h;subst h;exact Dyn.DVLe.refl _
 ·cases h
def voA(d:Int):Bool:=bif decide (d<0)then true else decide (d>6)
def voB(p:Int):Bool:=bif decide (p<1)then true else decide (p>536870912)
def voC(w h:Int):Bool:=bif bif bif decide (w<1)then true else decide (w>256)then true else decide (h<1)then true else decide (h>256)
def voD(x y:Int):Bool:=bif bif bif decide (x < -536870912)then true else decide (x>536870912)then true else decide (y < -536870912)then true else decide (y>536870912)
def voO(v:Vw):Dyn.RO:=
 .ite (voA v.d) (.leaf (rB false)) (.side [gdF (voB v.p) [0<=v.d],gdF (voB v.p) [cvM v.d≠0]] (.ite (bif voB v.p then true else v.p.tmod (cvM v.d)!=0) (.leaf (rB false))
 (.ite (voC v.w v.h) (.leaf (rB false)) (.ite (voD v.x v.y) (.leaf (rB false)) (.leaf (rB (zy0 ⟨v.x,v.y,W (v.x+W (v.w*v.p)),W (v.y+W (v.h*v.p))⟩)))))))
theorem vo_sat{v:Vw}(h:VwG v):(voO v).sat λr=>Dyn.RVLe r (rB true):=by
 obtain⟨d,p1,p2,e,w1,w2,h1,h2,x1,x2,y1,y2⟩:=h
 obtain⟨m1,m2⟩:=zmf (a:=v.w) (b:=v.p) (n:=8) (by omega) w2 (by omega)
 obtain⟨n1,n2⟩:=zmf (a:=v.h) (b:=v.p) (n:=8) (by omega) h2 (by omega)
 have eB:voB v.p=false:=by unfold voB;rw[decide_eq_false (by omega),decide_eq_false (by omega)];rfl
 have eM:cvM v.d≠0/\v.p.tmod (cvM v.d)=0:=by
  rw[Int.tmod_eq_emod_of_nonneg (by omega)]
  rcases d with d|d
  ·rw[d];exact⟨by decide,by show v.p%1=0;omega⟩
  ·rw[d];exact⟨by decide,e d⟩
 refine⟨λhx=>?_,λ_=>⟨⟨z3q ⟨by omega,trivial⟩,z3q ⟨eM.1,trivial⟩,trivial⟩,λhx=>?_,λ_=>⟨λhx=>?_,λ_=>⟨λhx=>?_,λ_=>?_⟩⟩⟩⟩
 ·unfold voA at hx
  rw[decide_eq_false (by omega),decide_eq_false (by omega)]at hx;cases hx
 ·rw[eB,eM.2]at hx;cases hx
 ·unfold voC at hx
  rw[decide_eq_false (by omega),decide_eq_false (by omega),decide_eq_false (by omega),decide_eq_false (by omega)]at hx;cases hx
 ·unfold voD at hx
  rw[decide_eq_false (by omega),decide_eq_false (by omega),decide_eq_false (by omega),decide_eq_false (by omega)]at hx;cases hx
 ·rw[W_id (x:=v.w*v.p) (by omega) (by omega),W_id (x:=v.h*v.p) (by omega) (by omega),W_id (x:=v.x+v.w*v.p) (by omega) (by omega),W_id (x:=v.y+v.h*v.p) (by omega) (by omega),(zsj _).2 ⟨by dsimp only;omega,by dsimp only;omega,by dsimp only;omega,by dsimp only;omega,by dsimp only;omega,by dsimp only;omega⟩]
  exact zby rfl
def tabVo:Dyn.Tabs:=Dyn.tabs tbF [] noD (λ_=>true)
theorem yfi:Dyn.zal Tryz.prog tabVo:=Dyn.zb0 zcy (λ_ h=>by cases h)
theorem vo_O(v:Vw):(Dyn.dfun Tryz.prog tabVo Dyn.noLp 8 Tryz.f35 [dvV v]).ro Tryz.prog Tryz.f35.results=voO v:=by kernel_rfl
theorem z64{v:Vw}(h:VwG v):Dyn.zav Tryz.prog 35 [dvV v] (rB true):=
 Dyn.zbs (lp:=Dyn.noLp) (fuel:=8) yfi mo Tryz.func35 (by kernel_rfl) (c:=zbx Tryz.f35.body) (by kernel_rfl) (λw0=>Dyn.zcl _ w0) (by kernel_rfl) (vo_O v) (vo_sat h)
def enVo:List Dyn.DV->Option (Dyn.RV×List Prop)
 |[a]=>match aV a with
  |some v=>some (rB true,[VwG v])
  |none=>none
 |_=>none
theorem yb5:Dyn.zbu Tryz.prog (35,enVo):=λargs r ps h hp=>by
 dsimp only at h
 unfold enVo at h
 split at h
 ·split at h
  ·rename_i a v hv
   simp only[Option.some.injEq,Prod.mk.injEq]at h
   obtain⟨rfl,rfl⟩:=h
   exact zc5 (args:=[dvV v]) ⟨ydf hv,trivial⟩ (z64 hp.1)
  ·cases h
 ·cases h
def tabVp:Dyn.Tabs:=Dyn.tabs tbF [(35,enVo)] noD (λ_=>true)
theorem yfh:Dyn.zal Tryz.prog tabVp:=Dyn.zb0 zcy (List.forall_mem_cons.2 ⟨yb5,λ_ h=>by cases h⟩)
def vpA(v:Vw)(x y:Int):Bool:=bif bif bif bif !true then true else decide (x<0)then true else decide (x>=v.w)then true else decide (y<0)then true else decide (y>=v.h)
def vpX(v:Vw)(x:Int):Int:=W (v.x+W (x*v.p))
def vpY(v:Vw)(y:Int):Int:=W (v.y+W (W (W (v.h-1)-y)*v.p))
def vpO(v:Vw)(x y:Int):Dyn.RO:=.side [VwG v] (.ite (vpA v x y) (.leaf (.tup [dvX ⟨0,0,0,0⟩,dvB false])) (.leaf (.tup [dvX ⟨vpX v x,vpY v y,W (vpX v x+v.p),W (vpY v y+v.p)⟩,dvB true])))
theorem vp_O(v:Vw)(x y:Int):(Dyn.dfun Tryz.prog tabVp Dyn.noLp 8 Tryz.f37 [dvV v,dvI x,dvI y]).ro Tryz.prog Tryz.f37.results=vpO v x y:=by kernel_rfl
theorem vp_sat{v:Vw}(h:VwG v){x y:Int}(hx:0<=x/\x<v.w)(hy:0<=y/\y<v.h):(vpO v x y).sat λr=>Dyn.RVLe r (.tup [dvX (pixB v x y),dvB true]):=by
 obtain⟨a1,a2,a3⟩:=zyo h hx
 obtain⟨b1,b2⟩:=ya4 h hy
 refine⟨⟨h,trivial⟩,λk=>?_,λ_=>?_⟩
 ·unfold vpA at k
  rw[decide_eq_false (by omega),decide_eq_false (by omega),decide_eq_false (by omega),decide_eq_false (by omega)]at k;cases k
 ·obtain⟨_,p1,p2,_,_,_,h1,h2,x1,x2,y1,y2⟩:=h
  have e1:vpX v x=v.x+x*v.p:=by unfold vpX;rw[W_id (x:=x*v.p) (by omega) (by omega),W_id (by omega) (by omega)]
  have e2:vpY v y=v.y+(v.h-1-y)*v.p:=by unfold vpY;rw[W_id (x:=v.h-1) (by omega) (by omega),W_id (x:=v.h-1-y) (by omega) (by omega),W_id (x:=(v.h-1-y)*v.p) (by omega) (by omega),W_id (by omega) (by omega)]
  rw[e1,e2,W_id (x:=v.x+x*v.p+v.p) (by omega) (by omega),W_id (x:=v.y+(v.h-1-y)*v.p+v.p) (by omega) (by omega)]
  exact zby rfl
theorem ygm{v:Vw}(h:VwG v){x y:Int}(hx:0<=x/\x<v.w)(hy:0<=y/\y<v.h):Dyn.zav Tryz.prog 37 [dvV v,dvI x,dvI y] (.tup [dvX (pixB v x y),dvB true]):=
 Dyn.zbs (lp:=Dyn.noLp) (fuel:=8) yfh mo Tryz.func37 (by kernel_rfl) (c:=zbx Tryz.f37.body) (by kernel_rfl) (λw0=>Dyn.zcl _ w0) (by kernel_rfl) (vp_O v x y) (vp_sat h hx hy)
def enVp:List Dyn.DV->Option (Dyn.RV×List Prop)
 |[a,b,c]=>match aV a,aI b,aI c with
  |some v,some x,some y=>some (.tup [dvX (pixB v x y),dvB true],[VwG v,0<=x/\x<v.w,0<=y/\y<v.h])
  |_,_,_=>none
 |_=>none
theorem yn6:Dyn.zbu Tryz.prog (37,enVp):=λargs r ps h hp=>by
 dsimp only at h
 unfold enVp at h
 split at h
 ·split at h
  ·rename_i a b c v x y hv hx hy
   simp only[Option.some.injEq,Prod.mk.injEq]at h
   obtain⟨rfl,rfl⟩:=h
   exact zc5 (args:=[dvV v,dvI x,dvI y]) ⟨ydf hv,yiq hx,yiq hy,trivial⟩ (ygm hp.1 hp.2.1 hp.2.2.1)
  ·cases h
 ·cases h
end Go.Proofs.YtmekpbopoknigaaGreatDoor
namespace Go.Proofs.YtmekpbopoknigaaGreatDoor
open Go Go.ChangeShapes Go.WideShapes Go.ChangeAt Go.RowKit Go.Joins Go.Deep
set_option maxRecDepth 100000
section
variable{H:Type}{enc:TypeId×Value->H}{P:Program}{w:World}{base:Nat}{spare:Nat->Bool}{held:Bool}
abbrev vwV(v:Vw):Value:=.agg ⟨[vi v.x,vi v.y,vi v.p,vi v.w,vi v.h,vi v.d]⟩
theorem open_V{tT:TypeId}{f0 f1 f2 f3 f4 f5:Field}(hs:P.underlying tT=some (.struct #[f0,f1,f2,f3,f4,f5]))(hC:P.cellsOf tT=6)(ho:f0.offset=0/\f1.offset=1/\f2.offset=2/\f3.offset=3/\f4.offset=4/\f5.offset=5)
  (hc:P.cellsOf f0.type=1/\P.cellsOf f1.type=1/\P.cellsOf f2.type=1/\P.cellsOf f3.type=1/\P.cellsOf f4.type=1/\P.cellsOf f5.type=1)
  (u0:P.underlying f0.type=some (.int .i64)) (u1:P.underlying f1.type=some (.int .i64)) (u2:P.underlying f2.type=some (.int .i64)) (u3:P.underlying f3.type=some (.int .i64)) (u4:P.underlying f4.type=some (.int .i64)) (u5:P.underlying f5.type=some (.int .i64))
  {r:Reach} {b0:Nat} {v:Value} {d:DataW H} {ps:List MemPlace} (hval:Value.okWide P w r b0 tT v) (hd:DataW.Trod enc P w base spare held tT v d ps):∃t:Vw,v=vwV t:=by
 obtain⟨cs,rfl,hsz⟩:=okWide_struct hs hval
 obtain⟨fuel,hf⟩:=hd
 obtain⟨xs,n,_,_,hl,hlen,hff⟩:=DataW.trod_struct hs hf
 have h0:=hff 0 f0 rfl
 have h1:=hff 1 f1 rfl
 have h2:=hff 2 f2 rfl
 have h3:=hff 3 f3 rfl
 have h4:=hff 4 f4 rfl
 have h5:=hff 5 f5 rfl
 have hlen:xs.length=6:=hlen
 obtain⟨y0,y1,y2,y3,y4,y5,rfl⟩:∃y0 y1 y2 y3 y4 y5,xs=[y0,y1,y2,y3,y4,y5]:=by
  match xs,hlen with
  |[y0,y1,y2,y3,y4,y5],_=>exact⟨y0,y1,y2,y3,y4,y5,rfl⟩
 rw[hC]at hsz
 obtain⟨l⟩:=cs
 obtain⟨v0,v1,v2,v3,v4,v5,rfl⟩:∃v0 v1 v2 v3 v4 v5:Value,l=[v0,v1,v2,v3,v4,v5]:=by
  match l,hsz with
  |[v0,v1,v2,v3,v4,v5],_=>exact⟨v0,v1,v2,v3,v4,v5,rfl⟩
 simp only[Value.cells]at h0 h1 h2 h3 h4 h5
 rw[ho.1,hc.1]at h0
 rw[ho.2.1,hc.2.1]at h1
 rw[ho.2.2.1,hc.2.2.1]at h2
 rw[ho.2.2.2.1,hc.2.2.2.1]at h3
 rw[ho.2.2.2.2.1,hc.2.2.2.2.1]at h4
 rw[ho.2.2.2.2.2,hc.2.2.2.2.2]at h5
 simp only[List.drop_zero,List.take_succ_cons,List.take_zero,List.drop_succ_cons,List.getElem?_cons_zero,List.getElem?_cons_succ]at h0 h1 h2 h3 h4 h5
 obtain⟨q0,e0,_⟩:=DataW.trod_int u0 h0
 obtain⟨q1,e1,_⟩:=DataW.trod_int u1 h1
 obtain⟨q2,e2,_⟩:=DataW.trod_int u2 h2
 obtain⟨q3,e3,_⟩:=DataW.trod_int u3 h3
 obtain⟨q4,e4,_⟩:=DataW.trod_int u4 h4
 obtain⟨q5,e5,_⟩:=DataW.trod_int u5 h5
 simp only[List.cons.injEq,and_true]at e0 e1 e2 e3 e4 e5
 subst e0;subst e1;subst e2;subst e3;subst e4;subst e5
 exact⟨⟨q0,q1,q2,q3,q4,q5⟩,rfl⟩
end
theorem den_V(v:Vw)(w:World)(F:Nat->Prop):Dyn.DenV w F (dvV v) (vwV v):=⟨_,rfl,.p _ rfl,.p _ rfl,.p _ rfl,.p _ rfl,.p _ rfl,.p _ rfl,trivial⟩
end Go.Proofs.YtmekpbopoknigaaGreatDoor
namespace Go.Proofs.YtmekpbopoknigaaGreatDoor.Dyn
open Go Go.RowKit Sym
def zdp:Nat->List DV->List SV×List (Option HE)
 |_,[]=>([],[])
 |n,v::vs=>match zee (zbq v)with
  |true=>let r:=zdp n vs;(.v (zc3 0 0 v)::r.1,r.2)
  |false=>let r:=zdp (n+1) vs;(.v (zc3 n 0 v)::r.1,some (.raw (zbq v))::r.2)
def zjw(fn:Func)(args:List DV):St:={slots:=(zdp 0 args).1++List.replicate (fn.ntmps-args.length) .junk,heap:=(zdp 0 args).2}
def rfun(P:Program)(X:Tabs)(lp:Lp)(fuel:Nat)(fn:Func)(args:List DV):Out:=
 match fn.body with
 |some c=>zbm P X lp fuel c .leaf (zjw fn args)
 |none=>.fail
section
variable{P:Program}{X:Tabs}{lp:Lp}{w0:Base P}{w:World}{β:Env}{s:St}{a:Act}
theorem Mem.pushR{h:List (Option HE)}(m:Mem w0 β h w){ds:List DC}{us:List Value}(hd:DenL w w0.R ds us)(hp:pOk ds=true)(hf:zee ds=false) :
  ∃β',(∀n c,h.getD n none=some c->β' n=β n)/\Mem w0 β' (h++[some (.raw ds)]) w/\(zb1 h.length 0 ds).map (ren0 β')=us/\∀y∈zb1 h.length 0 ds,∀k∈zaz y,∃c,(h++[some (HE.raw ds)]).getD k none=some c:=by
 have hg:∀n,(h++[none]).getD n none=h.getD n none:=λn=>by
  simp only[List.getD_eq_getElem?_getD,List.getElem?_append]
  split
  ·rfl
  ·rename_i hn
   rw[List.getElem?_eq_none (Nat.le_of_not_lt hn)]
   cases n-h.length with
   |zero=>rfl
   |succ q=>rfl
 have m0:Mem w0 β (h++[none]) w:=m.read hg rfl rfl rfl rfl
 obtain⟨β',b1,b2,b3,b4,_⟩:=zx9 m0 (fresh:=h.length) (λ_=>⟨by simp,by simp⟩) hd hp
 have e:zac (h++[none]) (updK true h.length ds)=h++[some (HE.raw ds)]:=by
  unfold updK;rw[hf];simp[zac]
 rw[e]at b2 b4
 exact⟨β',λn c hc=>b1 n c ((hg n).trans hc),b2,b3 0 rfl,b4⟩
theorem zos:∀(args:List DV) (us:List Value) (h:List (Option HE)) (β:Env),Mem w0 β h w->pOks args=true->zfn w w0.R args us->
  ∃β',(∀n c,h.getD n none=some c->β' n=β n)/\Mem w0 β' (h++(zdp h.length args).2) w/\(zdp h.length args).1.length=us.length/\(∀i u,us[i]? = some u->Den β' [] ((zdp h.length args).1.getD i .junk) u)/\(∀i n,n∈names ((zdp h.length args).1.getD i .junk)->∃c,(h++(zdp h.length args).2).getD n none=some c)/\∀x∈(zdp h.length args).1,isG x=false
 |[],[],h,β,m,_,_=>⟨β,λ_ _ _=>rfl,by simpa [zdp]using m,rfl,λi u hu=>by simp at hu,λi n hn=>by simp[zdp,names]at hn,λx hx=>by cases hx⟩
 |[],_::_,_,_,_,_,k=>k.elim
 |_::_,[],_,_,_,_,k=>k.elim
 |v::vs,u::us,h,β,m,hp,k=>by
  simp only[pOks]at hp
  split at hp
  ·rename_i hpv
   have hv:DenR w w0.R (.val v) u:=k.1
   obtain⟨ws,hd,hk⟩:=zds hv
   cases hfl:zee (zbq v)with
   |true=>
    obtain⟨β',i1,i2,i3,i4,i5,i6⟩:=zos vs us h β m hp k.2
    have e:zdp h.length (v::vs)=(.v (zc3 0 0 v)::(zdp h.length vs).1,(zdp h.length vs).2):=by simp only[zdp];rw[hfl]
    rw[e]
    have hx:∀β,ren β (zc3 0 0 v)=u:=λβ=>(hk 0 β (zd5 _ _ 0 hd hpv hfl)).1
    have hr:∀n,n∉refs (zc3 0 0 v):=λn hn=>by
     obtain⟨y,y1,y2⟩:=(hk 0 β (zd5 _ _ 0 hd hpv hfl)).2 n hn
     have:=(zd4 _ 0 hpv y y1 n y2).2
     have h2:zee (zdh (.val v))=false:=this
     simp only[zdh]at h2;rw[hfl]at h2;cases h2
    refine⟨β',i1,i2,by simp[i3],λi z hz=>?_,λi n hn=>?_,λx hx'=>?_⟩
    ·cases i with
     |zero=>simp only[List.getElem?_cons_zero,Option.some.injEq]at hz;subst hz;exact(hx β').symm
     |succ i=>exact i4 i z (by simpa using hz)
    ·cases i with
     |zero=>exact absurd hn (hr n)
     |succ i=>exact i5 i n (by simpa using hn)
    ·rcases List.mem_cons.1 hx' with rfl|hx'
     ·rfl
     ·exact i6 x hx'
   |false=>
    obtain⟨β1,j1,j2,j3,j4⟩:=m.pushR (ds:=zbq v) (us:=ws) hd hpv hfl
    have hlen:(h++[some (HE.raw (zbq v))]).length=h.length+1:=by simp
    obtain⟨β',i1,i2,i3,i4,i5,i6⟩:=zos vs us _ β1 j2 hp k.2
    rw[hlen]at i2 i3 i4 i5 i6
    have e:zdp h.length (v::vs)=(.v (zc3 h.length 0 v)::(zdp (h.length+1) vs).1,some (.raw (zbq v))::(zdp (h.length+1) vs).2):=by simp only[zdp];rw[hfl]
    rw[e]
    have eh:h++(some (HE.raw (zbq v))::(zdp (h.length+1) vs).2)=(h++[some (HE.raw (zbq v))])++(zdp (h.length+1) vs).2:=by simp
    dsimp only
    rw[eh]
    obtain⟨x1,x2⟩:=hk h.length β1 j3
    have hold:∀n c,h.getD n none=some c->(h++[some (HE.raw (zbq v))]).getD n none=some c:=λn c hn=>by
     have hlt:n<h.length:=by
      rcases Nat.lt_or_ge n h.length with z|z
      ·exact z
      ·rw[List.getD_eq_getElem?_getD,List.getElem?_eq_none z]at hn;cases hn
     rw[List.getD_eq_getElem?_getD,List.getElem?_append_left hlt,←List.getD_eq_getElem?_getD];exact hn
    have hn1:∀n∈refs (zc3 h.length 0 v),∃c,(h++[some (HE.raw (zbq v))]).getD n none=some c:=λn hn=>by
     obtain⟨y,y1,y2⟩:=x2 n hn
     exact j4 y y1 n y2
    refine⟨β',λn c hn=>(i1 n c (hold n c hn)).trans (j1 n c hn),i2,by simp[i3],λi z hz=>?_,λi n hn=>?_,λx hx'=>?_⟩
    ·cases i with
     |zero=>
      simp only[List.getElem?_cons_zero,Option.some.injEq]at hz;subst hz
      show u=ren β' (zc3 h.length 0 v)
      rw[zra (β:=β1) λn hn=>by obtain⟨c,hc⟩:=hn1 n hn;exact i1 n c hc]
      exact x1.symm
     |succ i=>exact i4 i z (by simpa using hz)
    ·cases i with
     |zero=>
      obtain⟨c,hc⟩:=hn1 n hn
      have hlt:n<(h++[some (HE.raw (zbq v))]).length:=by
       rcases Nat.lt_or_ge n (h++[some (HE.raw (zbq v))]).length with z|z
       ·exact z
       ·rw[List.getD_eq_getElem?_getD,List.getElem?_eq_none z]at hc;cases hc
      exact⟨c,by rw[List.getD_eq_getElem?_getD,List.getElem?_append_left hlt,←List.getD_eq_getElem?_getD];exact hc⟩
     |succ i=>exact i5 i n (by simpa using hn)
    ·rcases List.mem_cons.1 hx' with rfl|hx'
     ·rfl
     ·exact i6 x hx'
  ·cases hp
theorem zh9(ht:zal P X)(hm:P.follows .mixedOrders=true){K:Nat}{fn:Func}(hf:P.funcs[K]? = some fn)(hn:(fn.name=="runtime.NumGoroutine")=false){c:Code}(hb:fn.body=some c)(hl:∀w0:Base P,Dyn.LpOk P w0 lp (zam c)){fuel:Nat}{args:List DV}{r:RV}{O:RO}
  (hp:pOks args=true) (hO:(rfun P X lp fuel fn args).ro P fn.results=O) (hs:O.sat λr'=>RVLe r' r):zey P K args r:=by
 intro w F us hF hden
 have hrun:(callFunc K us.toArray).run P w=.ok (.enter K us.toArray) w:=by
  unfold callFunc
  simp only[Sem.run_bind,run_program,Result.andThen_ok,hf,hn,hb]
  simp
 rw[hrun]
 refine⟨rfl,?_⟩
 let w0:Base P:=⟨w,λ_=>False,λ_ h=>h.elim,[],(λ_ h=>by cases h),λ_ h=>h.elim,F,λb hb=>⟨hF b hb,by simp⟩,λ_=>(0,λ_=>.bool false),λ_=>False⟩
 have m0:Mem w0 (λ_=>(0,λ_=>.bool false)) [] w:=⟨λn he hn=>by simp at hn,λn k c d b hn=>by simp at hn,λn t cs hn=>by simp at hn,λ_ _=>rfl,⟨rfl,rfl,rfl,Nat.le_refl _,λ_ _ _=>rfl⟩,λn v i hn=>by simp at hn⟩
 obtain⟨β,_,i2,i3,i4,i5,i6⟩:=zos (w0:=w0) args us [] _ m0 hp hden
 simp only[List.length_nil,List.nil_append]at i2 i3 i4 i5 i6
 have hlen:us.length=args.length:=by
  have:∀(ds:List DV) (us:List Value),zfn w F ds us->us.length=ds.length:=by
   intro ds
   induction ds with
   |nil=>intro us h;cases us with
    |nil=>rfl
    |cons _ _=>exact h.elim
   |cons d ds ih=>intro us h;cases us with
    |nil=>exact h.elim
    |cons u us=>simp only[List.length_cons];rw[ih us h.2]
  exact this args us hden
 have m:M w0 β (zjw fn args) {tmps:=us.toArray++Array.replicate (fn.ntmps-us.toArray.size) undef,defers:=[]} w:=by
  refine {defers:=rfl,anc:=λh=>(by cases h),size:=by simp[zjw,i3,hlen],slot:=λi u hu=>?_,locs:=λi n hn=>?_,mem:=i2,tie:=λp hp=>by cases hp}
  ·by_cases hi:i<us.length
   ·have e2:(us.toArray++Array.replicate (fn.ntmps-us.toArray.size) undef)[i]? = us[i]?:=by
     rw[Array.getElem?_append_left (by simpa using hi)];simp
    rw[e2]at hu
    have e1:(zjw fn args).slots.getD i .junk=(zdp 0 args).1.getD i .junk:=by
     simp only[zjw,List.getD_eq_getElem?_getD]
     rw[List.getElem?_append_left (by rw[i3];exact hi)]
    rw[e1]
    exact zbg (λ_ _=>rfl) (λc hc=>by
     have hg:isG ((zdp 0 args).1.getD i .junk)=false:=by
      rw[List.getD_eq_getElem?_getD,List.getElem?_eq_getElem (by rw[i3];exact hi)]
      exact i6 _ (List.getElem_mem _)
     rw[zbj hg]at hc;cases hc) (i4 i u hu)
   ·have e1:(zjw fn args).slots.getD i .junk=.junk:=by
     simp only[zjw,List.getD_eq_getElem?_getD]
     rw[List.getElem?_append_right (by rw[i3];omega),List.getElem?_replicate]
     split<;>rfl
    rw[e1];trivial
  ·by_cases hi:i<us.length
   ·have e1:(zjw fn args).slots.getD i .junk=(zdp 0 args).1.getD i .junk:=by
     simp only[zjw,List.getD_eq_getElem?_getD]
     rw[List.getElem?_append_left (by rw[i3];exact hi)]
    rw[e1]at hn
    exact i5 i n hn
   ·have e1:(zjw fn args).slots.getD i .junk=.junk:=by
     simp only[zjw,List.getD_eq_getElem?_getD]
     rw[List.getElem?_append_right (by rw[i3];omega),List.getElem?_replicate]
     split<;>rfl
    rw[e1]at hn;cases hn
 have ng:NoG (zjw fn args):=by
  intro x hx
  rcases List.mem_append.1 hx with hx|hx
  ·exact i6 x hx
  ·rw[(List.mem_replicate.1 hx).2];rfl
 have hsat:=ztd (hO▸hs)
 unfold rfun at hsat
 rw[hb]at hsat
 refine calls_of_wp hf hb ?_
 refine zd3 ht hm c (hl w0) .leaf _ _ _ w _ m ng hsat λe s β a w' m' _ hl=>?_
 obtain⟨he,r',hr,hq⟩:=hl
 obtain⟨u,hu1,hu2⟩:=ze2 m' hr
 have hpost:a.defers=[]/\∃v',(results fn a.tmps).run P w'=.ok v' w'/\∃u,Ending.returned v'=.returned u/\DenR w' (λb=>w.heap.size<=b/\b<w'.heap.size/\zar w' b) r u/\Below w.heap.size w w':=
  ⟨m'.defers,u,hu1,u,rfl,zjq hq (hu2.mono λb hb=>⟨hb.resolve_left λh=>h,rfl⟩),⟨m'.mem.below.os,m'.mem.below.tape,m'.mem.below.output,m'.mem.below.size,λk hk=>m'.mem.below.block k hk (λh=>by cases h)⟩⟩
 rcases he with rfl|rfl<;>exact hpost
theorem zvr{w:World}{F G:Nat->Prop}:∀{ds:List DC} {us:List Value},zee ds=true->DenL w F ds us->DenL w G ds us
 |[],[],_,_=>trivial
 |[],_::_,_,h=>h.elim
 |_::_,[],_,h=>h.elim
 |d::ds,u::us,hf,h=>by
  cases d with
  |p x=>exact⟨by cases h.1;exact .p _ (by assumption),zvr (ds:=ds) hf h.2⟩
  |row n f=>cases hf
  |ptr cs=>cases hf
theorem ybs{w:World}{F G:Nat->Prop}{v:DV}{u:Value}(hf:zee (zbq v)=true)(h:DenV w F v u):DenV w G v u:=by
 cases v with
 |one d=>exact(zvr (ds:=[d]) (us:=[u]) hf ⟨h,trivial⟩).1
 |agg ds=>
  obtain⟨us,e,k⟩:=h
  exact⟨us,e,zvr hf k⟩
def z3t:List DV->Bool
 |[]=>true
 |v::vs=>match zee (zbq v)with
  |true=>z3t vs
  |false=>false
theorem zt8{w:World}{F G:Nat->Prop}:∀{vs:List DV} {us:List Value},z3t vs=true->zfn w F vs us->zfn w G vs us
 |[],[],_,_=>trivial
 |[],_::_,_,h=>h.elim
 |_::_,[],_,h=>h.elim
 |v::vs,u::us,hf,h=>by
  simp only[z3t]at hf
  split at hf
  ·rename_i h1
   exact⟨ybs h1 h.1,zt8 hf h.2⟩
  ·cases hf
theorem zav.r{K:Nat}{args:List DV}{res:RV}(h:zav P K args res)(hf:z3t args=true):zey P K args res:=λw F us _ hd=>by
 have k:=h w (λ_=>False) us (λ_ h=>h.elim) (zt8 hf hd)
 split at k
 ·rename_i u w' e
  exact⟨k.1.mono λb hb=>⟨hb.resolve_left λz=>z,rfl⟩,k.2⟩
 ·rename_i f az w' e
  obtain⟨rfl,k⟩:=k
  exact⟨rfl,k.mono λe w'' he=>by
   obtain⟨u,e1,e2,e3⟩:=he
   exact⟨u,e1,e2.mono λb hb=>⟨hb.resolve_left λz=>z,rfl⟩,e3⟩⟩
 ·exact k.elim
def zn6(P:Program)(e:zb2):Prop:=∀args r ps,e.2 args=some (r,ps)->allP ps->zey P e.1 args r
theorem z7k:∀{es:List zb2},(∀e∈es,zn6 P e)->∀K args r ps,tdOf es K args=some (r,ps)->allP ps->zey P K args r
 |[],_=>λK args r ps h=>by simp[tdOf]at h
 |e::es,h=>λK args r ps hv=>by
  simp only[tdOf]at hv
  cases hb:Nat.beq e.1 K with
  |true=>
   rw[hb]at hv
   have:e.1=K:=Nat.eq_of_beq_eq_true hb
   subst this
   exact h e (by simp) args r ps hv
  |false=>
   rw[hb]at hv
   exact z7k (es:=es) (λx hx=>h x (by simp[hx])) K args r ps hv
def trT(X:Tabs)(ds:List zb2):Tabs:={tb:=X.tb,td:=X.td,tr:=tdOf ds,dres:=X.dres,dty:=X.dty,pin:=X.pin,tx:=X.tx,dtmp:=X.dtmp,ext:=X.ext,pl:=X.pl,nw:=X.nw,sl:=X.sl,ow:=X.ow,gv:=X.gv,rx:=X.rx,cl:=X.cl,gn:=X.gn}
theorem zqr{X:Tabs}(h:zal P X){ds:List zb2}(hd:∀e∈ds,zn6 P e):zal P (trT X ds):=⟨h.nw,h.pl,h.tb,h.tx,h.td,z7k hd,h.ow,h.rx,h.gv⟩
end
section
variable{P:Program}{X:Tabs}{lp:Lp}{w0:Base P}{w:World}{β:Env}{s:St}{a:Act}
def resOwn(e:TypeId)(rs:Array ResultVar)(s:St):Option RV:=
 match rs.toList with
 |[.tmp t]=>match named (s.slots.getD t .junk)with
  |some (.slice (some a) _ _)=>match a.spot,a.off,s.heap.getD a.block none with
   |some _,0,some (.own e' n f)=>if e'=e then some (.val (.one (.row n f)))else none
   |_,_,_=>none
  |_=>none
 |_=>none
def Out.ow(e:TypeId)(rs:Array ResultVar):Out->RO
 |.leaf x s=>match x,resOwn e rs s with
  |.exit _,_=>.fail
  |_,some r=>.leaf r
  |_,none=>.fail
 |.ite b x y=>.ite b (x.ow e rs) (y.ow e rs)
 |.side ps x=>.side ps (x.ow e rs)
 |.fail=>.fail
end
def z1p(P:Program)(ops:Array Oper)(draw:Bool)(Q:Exit->Act->World->Prop)(a:Act)(w:World):Prop:=
 match draw with
 |false=>wpOps P ops Q (List.range ops.size) a w
 |true=>wpAny P .any ops Q ops.size (Array.replicate ops.size false) a w
section
variable{P:Program}{X:Tabs}{w0:Base P}{w:World}{β:Env}{st s':St}{a:Act}{ops:Array Oper}{ps:List Prop}{Q:Exit->Act->World->Prop}{draw:Bool}
theorem zxb{id:Nat}(hm:P.follows .mixedOrders=true)(h:∀w',w'=w\/w' = {w with drawn:=w.drawn+1}->z1p P ops draw Q a w'):(Code.region id ops draw).wp P Q a w:=by
 cases draw with
 |false=>exact wp_region (h w (.inl rfl))
 |true=>exact wp_region_any hm (h _ (.inr rfl))
theorem zxa(ht:zal P X)(m:M w0 β st a w)(ng:NoG st)(h:zeh P X ops draw st=some (s',ps))(hs:allP ps)
  (hQ:∀β a w,M w0 β s' a w->NoG s'->Q .normal a w):z1p P ops draw Q a w:=by
 unfold zeh at h
 split at h
 ·rename_i hreg
  have rk:=zrc hreg
  split at h
  ·rename_i s ps' ts hrun
   split at h
   ·rename_i hord
    simp only[Option.some.injEq,Prod.mk.injEq]at h
    obtain⟨rfl,rfl⟩:=h
    have m0:=ygn m (zki X ops)
    have inv0:=zu6 (X:=X) (ops:=ops) ng
    have hfin:∀β a w,M w0 β s a w->Q .normal a w:=λβ a w mm=>hQ β a w (zv3 mm) (zis s)
    cases draw with
    |false=>
     show wpOps P ops Q (List.range ops.size) a w
     rw[List.range_eq_range']
     have:=zh3 (Q:=Q) rk ht ops.toList 0 _ _ ps' ts a w β (λj=>by simp) hrun hs m0 (inv0.iff λi=>?_) hfin
     ·simpa using this
     ·rw[zdb];simp
    |true=>
     have hord':zls 0 (zr6 ops ts)=true:=by simpa using hord
     show wpAny P .any ops Q ops.size (Array.replicate ops.size false) a w
     have hall:=zll (F:=λx=>x=s) hord' (by rw[zii _ _ _ _ _ _ hrun];simp) (λ_=>Iff.rfl) ops.toList 0 (Array.replicate ops.size false) _ s ps' ts (λj=>by simp) (by simp)
      (λi=>?_) (λi=>by rw[zdb];simp) (λj oj _ hl=>by rw[zdb]at hl;cases hl) hrun (λj=>by simp) hs rfl
     ·have:=zd9 (Q:=Q) rk ht (λβ x a w hx mm=>by subst hx;exact hfin β a w mm) _ _ _ a _ β hall m0 inv0
      simpa using this
     ·by_cases hi:i<ops.size
      ·simp[hi]
      ·simp[hi]
   ·cases h
  ·cases h
 ·cases h
end
def zbr(m:Nat)(o:Oper):Oper:={o with after:=(o.after.toList.filterMap λe=>bif Nat.blt e.on m then none else some {e with on:=e.on-m}).toArray}
def resG(m:Nat)(val:Nat->Option Bool)(o:Oper):Oper:=
 match o.guard with
 |none=>o
 |some (g,want)=>match Nat.blt g m with
  |true=>match val g with
   |some b=>match b==want with
    |true=>{o with guard:=none}
    |false=>{o with op:=.move (.const undef),guard:=none}
   |none=>o
  |false=>{o with guard:=some (g-m,want)}
def zeo(m:Nat)(val:Nat->Option Bool)(ops:Array Oper):Array Oper:=((ops.toList.drop m).map λo=>resG m val (zbr m o)).toArray
def zgi(m:Nat)(ops:Array Oper):Array Oper:=(ops.toList.take m).toArray
def preB(m:Nat):List Oper->Bool
 |[]=>true
 |o::l=>(match o.guard with
  |none=>true
  |some (g,_)=>Nat.blt g m)&&preB m l
def gDst(ops:Array Oper)(m:Nat):List Oper->List (Option Nat)
 |[]=>[]
 |o::l=>match o.guard with
  |none=>gDst ops m l
  |some (g,_)=>match Nat.blt g m with
   |true=>(ops[g]?).bind (·.dst)::gDst ops m l
   |false=>gDst ops m l
def z5b(m:Nat)(val:Nat->Option Bool):List Oper->Bool
 |[]=>true
 |o::l=>(match o.guard with
  |none=>true
  |some (g,_)=>match Nat.blt g m with
   |true=>(val g).isSome
   |false=>true)&&z5b m val l
def ygu(ds:List (Option Nat)):List Oper->Bool
 |[]=>true
 |o::l=>(match o.dst with
  |none=>true
  |some d=>ds.all λx=>match x with
   |some d'=>!(Nat.beq d d')
   |none=>true)&&ygu ds l
def twUp:Nat->List Nat->Bool
 |_,[]=>true
 |k,t::l=>decide (t<2 ^ k)&&twUp (k+1) l
def z7d(m:Nat):List Nat->Bool
 |[]=>true
 |t::l=>Nat.beq (t &&& (2 ^ m-1)) (2 ^ m-1)&&z7d m l
def cutB(m:Nat)(draw:Bool)(ops:Array Oper):Bool:=
 decide (m<=ops.size)&&preB m (ops.toList.take m)&&ygu (gDst ops m (ops.toList.drop m)) (ops.toList.drop m) &&
  (match draw with
  |false=>true
  |true=>twUp 0 ((twOf ops).take m)&&z7d m ((twOf ops).drop m))
theorem zxi{m:Nat}:∀{l:List Oper},preB m l=true->∀o∈l,∀g q,o.guard=some (g,q)->g<m
 |[],_,o,ho,_,_,_=>by cases ho
 |x::l,h,o,ho,g,q,hg=>by
  simp only[preB,Bool.and_eq_true]at h
  rcases List.mem_cons.1 ho with rfl|ho
  ·have:=h.1;rw[hg]at this;simpa using this
  ·exact zxi h.2 o ho g q hg
theorem ztn{m:Nat}{val:Nat->Option Bool}:∀{l:List Oper},z5b m val l=true->∀o∈l,∀g q,o.guard=some (g,q)->g<m->∃b,val g=some b
 |[],_,o,ho,_,_,_,_=>by cases ho
 |x::l,h,o,ho,g,q,hg,hlt=>by
  simp only[z5b,Bool.and_eq_true]at h
  rcases List.mem_cons.1 ho with rfl|ho
  ·have:=h.1
   rw[hg]at this
   dsimp only at this
   rw[show Nat.blt g m=true by simpa using hlt]at this
   exact Option.isSome_iff_exists.1 this
  ·exact ztn h.2 o ho g q hg hlt
theorem z3r{ops:Array Oper}{m:Nat}:∀{l:List Oper} {o:Oper} {g:Nat} {q:Bool},o∈l->o.guard=some (g,q)->g<m->(ops[g]?).bind (·.dst)∈gDst ops m l
 |[],_,_,_,ho,_,_=>by cases ho
 |x::l,o,g,q,ho,hg,hlt=>by
  rcases List.mem_cons.1 ho with rfl|ho
  ·simp only[gDst,hg]
   rw[show Nat.blt g m=true by simpa using hlt]
   exact List.mem_cons_self ..
  ·have ih:=z3r (ops:=ops) ho hg hlt
   simp only[gDst]
   split
   ·exact ih
   ·split
    ·exact List.mem_cons_of_mem _ ih
    ·exact ih
theorem ztv{ds:List (Option Nat)}:∀{l:List Oper},ygu ds l=true->∀o∈l,∀d,o.dst=some d->some d∉ds
 |[],_,o,ho,_,_=>by cases ho
 |x::l,h,o,ho,d,hd=>by
  simp only[ygu,Bool.and_eq_true]at h
  rcases List.mem_cons.1 ho with rfl|ho
  ·have:=h.1
   rw[hd]at this
   dsimp only at this
   intro hm
   have:=List.all_eq_true.1 this _ hm
   simp at this
  ·exact ztv h.2 o ho d hd
theorem zwo:∀{l:List Nat} {k j:Nat},twUp k l=true->j<l.length->l.getD j 0<2 ^ (k+j)
 |[],_,j,_,hj=>absurd hj (Nat.not_lt_zero j)
 |t::l,k,0,h,_=>by simp only[twUp,Bool.and_eq_true,decide_eq_true_eq]at h;exact h.1
 |t::l,k,j+1,h,hj=>by
  simp only[twUp,Bool.and_eq_true]at h
  have:=zwo (j:=j) h.2 (by simpa using hj)
  rw[show k+(j+1)=k+1+j by omega];simpa using this
theorem zs7{m:Nat}:∀{l:List Nat} {j:Nat},z7d m l=true->j<l.length->∀i,i<m->(l.getD j 0).testBit i=true
 |[],j,_,hj,_,_=>absurd hj (Nat.not_lt_zero j)
 |t::l,0,h,_,i,hi=>by
  simp only[z7d,Bool.and_eq_true]at h
  have e:=Nat.eq_of_beq_eq_true h.1
  have:(t &&& (2 ^ m-1)).testBit i=true:=by rw[e,Nat.testBit_two_pow_sub_one];simpa using hi
  rw[Nat.testBit_and,Bool.and_eq_true]at this
  exact this.1
 |t::l,j+1,h,hj,i,hi=>by
  simp only[z7d,Bool.and_eq_true]at h
  exact zs7 (j:=j) h.2 (by simpa using hj) i hi
section
variable{P:Program}{ops:Array Oper}{Q Q1:Exit->Act->World->Prop}{m:Nat}{val:Nat->Option Bool}{draw:Bool}
theorem zpo(h:∀e a w,e≠.normal->Q1 e a w->Q e a w)(hl:LetsOut Q1):LetsOut Q:=by
 obtain⟨a,w,k⟩:=hl
 exact⟨a,w,h _ _ _ (by simp) k⟩
theorem Oper.wp_monoQ{o:Oper}{a:Act}{w:World}{K K':Act->World->Prop}(hq:∀e a w,e≠.normal->Q1 e a w->Q e a w)(h:∀a w,K a w->K' a w)(hh:o.wp P a w K Q1):o.wp P a w K' Q:=by
 unfold Oper.wp at *
 generalize (execOp a.eval o).run P w=r at *
 cases r with
 |ok n w'=>
  cases n<;>simp only[Oper.upon]at hh ⊢<;>
   first
    |exact h _ _ hh
    |exact Calls.mono hh (λe w'' he=>by cases e<;>first|exact h _ _ he|exact hq _ _ _ (by simp) he|exact zpo hq he)
    |exact Rows.mono hh (λ_ _ he=>h _ _ he)
 |halt x w'=>cases x<;>simp only[Oper.upon]at hh ⊢<;>first|exact hq _ _ _ (by simp) hh|exact hh
theorem Oper.wp_frame{o:Oper}{a:Act}{w:World}{K:Act->World->Prop}(hh:o.wp P a w K Q):o.wp P a w (λa' w'=>K a' w'/\∃v,a'.tmps=(a.put o.dst v).tmps) Q:=by
 unfold Oper.wp at *
 generalize (execOp a.eval o).run P w=r at *
 cases r with
 |ok n w'=>
  cases n<;>simp only[Oper.upon]at hh ⊢<;>
   first
    |exact⟨hh,_,rfl⟩
    |exact Calls.mono hh (λe w'' he=>by cases e<;>first|exact⟨he,_,rfl⟩|exact he)
    |exact Rows.mono hh (λ_ _ he=>⟨he,_,rfl⟩)
    |(refine⟨hh,undef,?_⟩;cases o.dst<;>rfl)
 |halt x w'=>cases x<;>simp only[Oper.upon]at hh ⊢<;>exact hh
theorem yiy{i n:Nat}{o:Oper}(ho:ops[i]? = some o)(h:ydg o n):((twOf ops).getD i 0).testBit n=true:=by
 obtain⟨r,g1,g2,g3⟩:=ze9 ops.toList []
 have e':twOf ops=r:=by unfold twOf;rw[g1];rfl
 rw[e',List.getD_eq_getElem?_getD,g3 i o (by simpa using ho),Option.getD_some]
 have hm:=zh4.2 h
 generalize []++r.take i=acc
 revert hm
 generalize zf9 o=ws
 intro hm
 induction ws with
 |nil=>cases hm
 |cons x xs ih=>
  simp only[zj6,Nat.testBit_or,Bool.or_eq_true]
  rcases List.mem_cons.1 hm with rfl|hm
  ·exact .inl (.inl (Nat.testBit_two_pow_self))
  ·exact .inr (ih hm)
theorem zu4(i:Nat):(zeo m val ops)[i]? = (ops[i+m]?).map λo=>resG m val (zbr m o):=by
 unfold zeo
 rw[List.getElem?_toArray,List.getElem?_map,List.getElem?_drop,Nat.add_comm m i,Array.getElem?_toList]
theorem z2s{i:Nat}(hi:i<m):(zgi m ops)[i]? = ops[i]?:=by
 unfold zgi
 rw[List.getElem?_toArray,List.getElem?_take,if_pos hi,Array.getElem?_toList]
theorem yge(o:Oper):(resG m val o).dst=o.dst:=by
 unfold resG
 repeat' split
 all_goals rfl
theorem ztf(o:Oper):(resG m val o).after=o.after:=by
 unfold resG
 repeat' split
 all_goals rfl
theorem zzg{g:Nat}(hg:g<m)(t:Array Value):yielded (zgi m ops) t g=yielded ops t g:=by
 unfold yielded;rw[z2s hg]
theorem zwj{g:Nat}(hg:m<=g)(t:Array Value):yielded (zeo m val ops) t (g-m)=yielded ops t g:=by
 unfold yielded
 rw[zu4,show g-m+m=g by omega]
 cases ops[g]? with
 |none=>rfl
 |some o=>simp only[Option.map_some,Option.bind_some];rw[yge];rfl
def YInv(ops:Array Oper)(m:Nat)(val:Nat->Option Bool)(a:Act):Prop:=∀i o g q b,ops[i+m]? = some o->o.guard=some (g,q)->g<m->val g=some b->yielded ops a.tmps g=some b
def zuj(ops:Array Oper)(m:Nat)(val:Nat->Option Bool):Prop:=∀i o g q,ops[i+m]? = some o->o.guard=some (g,q)->g<m->∃b,val g=some b
structure zsr(ops:Array Oper)(m:Nat)(draw:Bool):Prop where
 le:m<=ops.size
 pre:∀i o g q,i<m->ops[i]? = some o->o.guard=some (g,q)->g<m
 dst:∀i o d i' o' g q,ops[i+m]? = some o->o.dst=some d->ops[i'+m]? = some o'->o'.guard=some (g,q)->g<m->(ops[g]?).bind (·.dst)≠some d
 up:draw=true->∀i,i<m->(twOf ops).getD i 0<2 ^ i
 all:draw=true->∀j,m<=j->j<ops.size->∀i,i<m->((twOf ops).getD j 0).testBit i=true
theorem z1u:(twOf ops).length=ops.size:=by
 obtain⟨r,h1,h2,_⟩:=ze9 ops.toList []
 unfold twOf;rw[h1];simpa using h2
theorem ybe{i:Nat}{o:Oper}(ho:ops[i+m]? = some o):o∈ops.toList.drop m:=by
 refine List.mem_of_getElem? (i:=i) ?_
 rw[List.getElem?_drop,Nat.add_comm m i,Array.getElem?_toList];exact ho
theorem zxj(h:z5b m val (ops.toList.drop m)=true):zuj ops m val:=λ_ o g q ho hg hlt=>ztn h o (ybe ho) g q hg hlt
theorem zym(h:cutB m draw ops=true):zsr ops m draw:=by
 unfold cutB at h
 simp only[Bool.and_eq_true,decide_eq_true_eq]at h
 obtain⟨⟨⟨h1,h2⟩,h4⟩,h5⟩:=h
 have hin:∀{i:Nat} {o:Oper},ops[i+m]? = some o->o∈ops.toList.drop m:=λ{i o} ho=>ybe ho
 refine⟨h1,λi o g q hi ho hg=>zxi h2 o ?_ g q hg,λi o d i' o' g q ho hd ho' hg hlt he=>?_,λhd i hi=>?_,λhd j hj hjn i hi=>?_⟩
 ·refine List.mem_of_getElem? (i:=i) ?_
  rw[List.getElem?_take,if_pos hi,Array.getElem?_toList];exact ho
 ·have:=z3r (ops:=ops) (hin ho') hg hlt
  rw[he]at this
  exact ztv h4 o (hin ho) d hd this
 ·subst hd
  simp only[Bool.and_eq_true]at h5
  have:=zwo (j:=i) h5.1 (by rw[List.length_take,z1u];omega)
  rw[List.getD_eq_getElem?_getD,List.getElem?_take,if_pos hi,←List.getD_eq_getElem?_getD,Nat.zero_add]at this
  exact this
 ·subst hd
  simp only[Bool.and_eq_true]at h5
  have:=zs7 (j:=j-m) h5.2 (by rw[List.length_drop,z1u];omega) i hi
  rw[List.getD_eq_getElem?_getD,List.getElem?_drop,show m+(j-m)=j by omega,←List.getD_eq_getElem?_getD]at this
  exact this
theorem YInv.put(hc:zsr ops m draw){a a':Act}(h:YInv ops m val a){i:Nat}{o:Oper}(ho:ops[i+m]? = some o){v:Value}(ha:a'.tmps=(a.put o.dst v).tmps):YInv ops m val a':=λi' o' g q b ho' hg hlt hb=>by
 have k:=h i' o' g q b ho' hg hlt hb
 unfold yielded at *
 rw[ha]
 cases hd:o.dst with
 |none=>exact k
 |some d=>
  have hne:=hc.dst i o d i' o' g q ho hd ho' hg hlt
  cases hx:(ops[g]?).bind (·.dst)with
  |none=>rw[hx]at k;simp at k
  |some d'=>
   rw[hx]at k hne
   simp only[Option.bind_some]at k ⊢
   have hdd:d≠d':=λe=>hne (by rw[e])
   have e1:(a.put (some d) v).tmps[d']? = a.tmps[d']?:=by
    simp only[Act.put,Array.getElem?_setIfInBounds]
    rw[if_neg hdd]
   rw[e1];exact k
theorem z1r(hc:zsr ops m draw)(hq:∀e a w,e≠.normal->Q1 e a w->Q e a w){i:Nat}(hi:i<m){K K':Act->World->Prop}(hK:∀a w,K' a w->K a w){a:Act}{w:World}(h:wpOp P (zgi m ops) Q1 i K' a w):wpOp P ops Q i K a w:=by
 unfold wpOp at *
 rw[z2s hi]at h
 split
 ·rename_i hn
  rw[hn]at h;exact hK _ _ h
 ·rename_i o ho
  rw[ho]at h
  dsimp only at h
  have hw:Region.wanted o (yielded (zgi m ops) a.tmps)=Region.wanted o (yielded ops a.tmps):=by
   unfold Region.wanted
   cases hg:o.guard with
   |none=>rfl
   |some gq=>
    obtain⟨g,q⟩:=gq
    dsimp only
    rw[zzg (hc.pre i o g q hi ho hg)]
  rw[hw]at h
  split
  ·rename_i hx
   rw[if_pos hx]at h
   exact h.imp (Oper.wp_monoQ hq hK) (λz=>⟨z.1,zpo hq z.2⟩)
  ·rename_i hx
   rw[if_neg hx]at h
   exact hK _ _ h
theorem ym9{o:Oper}(hop:o.op=.move (.const undef)){a:Act}{w:World}{K:Act->World->Prop}(h:o.wp P a w K Q\/(o.asks P a w/\LetsOut Q)):K (a.put o.dst undef) w:=by
 rcases h with h|⟨h,_⟩
 ·unfold Oper.wp at h
  have:(execOp a.eval o).run P w=.ok (.value undef) w:=by simp only[execOp,hop,Act.eval,Sem.run_pure]
  rw[this]at h
  exact h
 ·exfalso
  have:=h.1
  have e:(execOp a.eval o).runT P w #[]=(.ok (.value undef) w,#[]):=by simp only[execOp,hop,Act.eval];rfl
  rw[e]at this
  simp at this
theorem zwk(hc:zsr ops m draw)(hp:zuj ops m val){i:Nat}{K K':Act->World->Prop}{a:Act}{w:World}(inv:YInv ops m val a)(hK:∀a' w',YInv ops m val a'->K' a' w'->K a' w')(h:wpOp P (zeo m val ops) Q i K' a w):wpOp P ops Q (i+m) K a w:=by
 unfold wpOp at *
 rw[zu4]at h
 split
 ·rename_i hn
  rw[hn]at h;exact hK _ _ inv h
 ·rename_i o ho
  rw[ho]at h
  simp only[Option.map_some]at h
  have same:∀{o':Oper},o'.op=o.op->o'.type=o.type->o'.pos=o.pos->o'.dst=o.dst->(o'.wp P a w K' Q\/(o'.asks P a w/\LetsOut Q))->(o.wp P a w K Q\/(o.asks P a w/\LetsOut Q)):=λ{o'} e1 e2 e3 e4 hh=>by
   have ex:execOp a.eval o'=execOp a.eval o:=by
    obtain⟨d1,p1,t1,x1,y1,z1⟩:=o
    obtain⟨d2,p2,t2,x2,y2,z2⟩:=o'
    dsimp only at e1 e2 e3 e4
    subst e1;subst e2;subst e3;subst e4
    rfl
   refine hh.imp (λk=>?_) (λk=>⟨?_,k.2⟩)
   ·have k1:o.wp P a w K' Q:=by
     unfold Oper.wp at *
     rw[ex]at k
     generalize (execOp a.eval o).run P w=r at *
     cases r with
     |ok n w'=>cases n<;>simp only[Oper.upon]at k ⊢<;>first|(rw[e4]at k;exact k)|exact k
     |halt x w'=>cases x<;>simp only[Oper.upon]at k ⊢<;>exact k
    exact Oper.wp_mono (λa' w' z=>hK a' w' (by obtain⟨v,hv⟩:=z.2;exact inv.put hc ho hv) z.1) (Oper.wp_frame k1)
   ·have k1:=k.1
    unfold Oper.asks at *
    rw[ex]at k1;exact k1
  have skip:∀{o':Oper},o'.dst=o.dst->K' (a.put o'.dst undef) w->K (a.put o.dst undef) w:=λ{o'} e k=>by
   rw[e]at k
   exact hK _ _ (inv.put hc ho rfl) k
  cases hg:o.guard with
  |none=>
   have e0:resG m val (zbr m o)=zbr m o:=by
    unfold resG
    rw[show(zbr m o).guard=none from hg]
   rw[e0]at h
   have hw':Region.wanted (zbr m o) (yielded (zeo m val ops) a.tmps)=true:=by
    unfold Region.wanted
    rw[show(zbr m o).guard=none from hg]
   have hw:Region.wanted o (yielded ops a.tmps)=true:=by
    unfold Region.wanted
    rw[hg]
   rw[if_pos hw']at h
   rw[if_pos hw]
   exact same rfl rfl rfl rfl h
  |some gq=>
   obtain⟨g,q⟩:=gq
   have hg':(zbr m o).guard=some (g,q):=hg
   rcases Nat.lt_or_ge g m with hlt|hge
   ·obtain⟨b,hb⟩:=hp i o g q ho hg hlt
    have hy:=inv i o g q b ho hg hlt hb
    have hw:Region.wanted o (yielded ops a.tmps)=(b==q):=by
     unfold Region.wanted
     rw[hg]
     dsimp only
     rw[hy]
     cases b<;>cases q<;>rfl
    rw[hw]
    cases hbq:b==q with
    |true=>
     have e0:resG m val (zbr m o) = {zbr m o with guard:=none}:=by
      unfold resG
      rw[hg']
      dsimp only
      rw[show Nat.blt g m=true by simpa using hlt]
      dsimp only
      rw[hb]
      dsimp only
      rw[hbq]
     rw[e0]at h
     rw[if_pos (by rfl)]at h
     rw[if_pos rfl]
     exact same rfl rfl rfl rfl h
    |false=>
     have e0:resG m val (zbr m o) = {zbr m o with op:=.move (.const undef),guard:=none}:=by
      unfold resG
      rw[hg']
      dsimp only
      rw[show Nat.blt g m=true by simpa using hlt]
      dsimp only
      rw[hb]
      dsimp only
      rw[hbq]
     rw[e0]at h
     rw[if_pos (by rfl)]at h
     rw[if_neg (by simp)]
     exact skip (o':={zbr m o with op:=.move (.const undef),guard:=none}) rfl (ym9 rfl h)
   ·have e0:resG m val (zbr m o) = {zbr m o with guard:=some (g-m,q)}:=by
     unfold resG
     rw[hg']
     dsimp only
     rw[show Nat.blt g m=false by rw[Bool.eq_false_iff];intro z;rw[Nat.blt_eq]at z;omega]
    rw[e0]at h
    have hw:Region.wanted {zbr m o with guard:=some (g-m,q)} (yielded (zeo m val ops) a.tmps)=Region.wanted o (yielded ops a.tmps):=by
     unfold Region.wanted
     rw[hg]
     dsimp only
     rw[zwj hge]
    rw[hw]at h
    split
    ·rename_i hx
     rw[if_pos hx]at h
     exact same rfl rfl rfl rfl h
    ·rename_i hx
     rw[if_neg hx]at h
     exact skip (o':={zbr m o with guard:=some (g-m,q)}) rfl h
theorem yac(hc:zsr ops m draw)(hq:∀e a w,e≠.normal->Q1 e a w->Q e a w){rest:List Nat}(hn:∀a w,Q1 .normal a w->wpOps P ops Q rest a w):∀(l:List Nat) (a:Act) (w:World),(∀i∈l,i<m)->wpOps P (zgi m ops) Q1 l a w->wpOps P ops Q (l++rest) a w
 |[],a,w,_,h=>hn a w h
 |i::l,a,w,hl,h=>by
  rw[wpOps_cons]at h
  rw[List.cons_append,wpOps_cons]
  exact z1r hc hq (hl i (List.mem_cons_self ..)) (λa w k=>yac hc hq hn l a w (λj hj=>hl j (List.mem_cons_of_mem _ hj)) k) h
theorem z21(hc:zsr ops m draw)(hp:zuj ops m val):∀(l:List Nat) (a:Act) (w:World),YInv ops m val a->wpOps P (zeo m val ops) Q l a w->wpOps P ops Q (l.map (· + m)) a w
 |[],a,w,_,h=>h
 |i::l,a,w,inv,h=>by
  rw[wpOps_cons]at h
  rw[List.map_cons,wpOps_cons]
  exact zwk hc hp inv (λa' w' inv' k=>z21 hc hp l a' w' inv' k) h
theorem zs4:∀(k f:Nat) (L:Array Bool) (a:Act) (w:World),wpAny P .any ops Q f L a w->wpAny P .any ops Q (f+k) L a w
 |0,f,L,a,w,h=>h
 |k+1,f,L,a,w,h=>by
  have one:∀(f:Nat) (L:Array Bool) (a:Act) (w:World),wpAny P .any ops Q f L a w->wpAny P .any ops Q (f+1) L a w:=by
   intro f
   induction f with
   |zero=>intro L a w h;exact⟨λ_=>h.2,λi hi=>by rw[h.1]at hi;cases hi⟩
   |succ f ih=>intro L a w h;exact⟨h.1,λi hi=>wpOp_mono (λa w k=>ih _ a w k) (h.2 i hi)⟩
  exact one _ _ _ _ (zs4 k f L a w h)
theorem zde{L:Array Bool}{j k:Nat}{d:Bool}(hj:j<L.size):(L.setIfInBounds j true).getD k d=if j=k then true else L.getD k d:=by
 simp only[Array.getD_eq_getD_getElem?,Array.getElem?_setIfInBounds]
 by_cases e:j=k
 ·subst e;simp[hj]
 ·simp[e]
theorem zec{L:Array Bool}{j:Nat}(h:L.getD j true=false):j<L.size:=by
 rcases Nat.lt_or_ge j L.size with k|k
 ·exact k
 ·simp[Array.getElem?_eq_none k]at h
structure Rel2(m:Nat)(L L2:Array Bool):Prop where
 lo:∀i,i<m->L.getD i true=true/\L.getD i false=true
 hi:∀i,L.getD (i+m) true=L2.getD i true/\L.getD (i+m) false=L2.getD i false
theorem zoa{L L2:Array Bool}(r:Rel2 m L L2){j:Nat}:j∈Region.ready .any ops L↔∃i,j=i+m/\i∈Region.ready .any (zeo m val ops) L2:=by
 constructor
 ·intro h
  obtain⟨h0,o,ho,hw⟩:=mem_ready.1 h
  have hj:m<=j:=Nat.le_of_not_lt λz=>by rw[(r.lo j z).1]at h0;cases h0
  refine⟨j-m,by omega,mem_ready.2 ⟨?_,resG m val (zbr m o),?_,λe he hb=>?_⟩⟩
  ·rw[←(r.hi (j-m)).1,show j-m+m=j by omega];exact h0
  ·rw[zu4,show j-m+m=j by omega,ho];rfl
  ·rw[ztf]at he
   unfold zbr at he
   simp only[List.mem_toArray,List.mem_filterMap]at he
   obtain⟨e0,he0,hx⟩:=he
   cases hbl:Nat.blt e0.on m with
   |true=>rw[hbl]at hx;cases hx
   |false=>
    rw[hbl]at hx
    simp only[cond_false,Option.some.injEq]at hx
    subst hx
    have hge:m<=e0.on:=Nat.le_of_not_lt λz=>by rw[←Nat.blt_eq]at z;rw[z]at hbl;cases hbl
    rw[←(r.hi _).2]
    show L.getD (e0.on-m+m) false=true
    rw[show e0.on-m+m=e0.on by omega]
    exact hw e0 (Array.mem_toList_iff.1 he0) hb
 ·rintro⟨i,rfl,h⟩
  obtain⟨h0,o',ho',hw⟩:=mem_ready.1 h
  rw[zu4]at ho'
  cases hx:ops[i+m]? with
  |none=>rw[hx]at ho';cases ho'
  |some o=>
   rw[hx]at ho'
   simp only[Option.map_some,Option.some.injEq]at ho'
   subst ho'
   refine mem_ready.2 ⟨(r.hi i).1.trans h0,o,hx,λe he hb=>?_⟩
   rcases Nat.lt_or_ge e.on m with hlt|hge
   ·exact(r.lo _ hlt).2
   ·have:({e with on:=e.on-m}:Edge)∈(resG m val (zbr m o)).after:=by
     rw[ztf]
     unfold zbr
     simp only[List.mem_toArray,List.mem_filterMap]
     refine⟨e,Array.mem_toList_iff.2 he,?_⟩
     rw[show Nat.blt e.on m=false by rw[Bool.eq_false_iff];intro z;rw[Nat.blt_eq]at z;omega]
     rfl
    have:=hw _ this hb
    rw[←(r.hi _).2]at this
    rw[show e.on=e.on-m+m by omega];exact this
theorem z4f(hc:zsr ops m draw)(hp:zuj ops m val):∀(f:Nat) (L L2:Array Bool) (a:Act) (w:World),Rel2 m L L2->YInv ops m val a->wpAny P .any (zeo m val ops) Q f L2 a w->wpAny P .any ops Q f L a w
 |0,L,L2,a,w,r,inv,h=>by
  refine⟨?_,h.2⟩
  cases hr:Region.ready .any ops L with
  |nil=>rfl
  |cons x xs=>
   obtain⟨i,_,hi⟩:=(zoa (val:=val) r).1 (show x∈Region.ready .any ops L by rw[hr];simp)
   rw[h.1]at hi;cases hi
 |f+1,L,L2,a,w,r,inv,h=>by
  refine⟨λhr=>h.1 ?_,λj hj=>?_⟩
  ·cases hr2:Region.ready .any (zeo m val ops) L2 with
   |nil=>rfl
   |cons x xs=>
    have:=(zoa (ops:=ops) (val:=val) r (j:=x+m)).2 ⟨x,rfl,by rw[hr2];simp⟩
    rw[hr]at this;cases this
  ·obtain⟨i,rfl,hi⟩:=(zoa (val:=val) r).1 hj
   have h1:=zec (mem_ready.1 hj).1
   have h2:=zec (mem_ready.1 hi).1
   refine zwk hc hp inv (λa' w' inv' k=>z4f hc hp f _ _ a' w' ⟨λq hq=>?_,λq=>?_⟩ inv' k) (h.2 i hi)
   ·rw[zde h1,zde h1,if_neg (by omega),if_neg (by omega)];exact r.lo q hq
   ·rw[zde h1,zde h1,zde h2,zde h2]
    by_cases e:i=q
    ·subst e;simp
    ·have e':¬i+m=q+m:=λz=>e (by omega)
     rw[if_neg e',if_neg e',if_neg e,if_neg e];exact r.hi q
structure Rel1(ops:Array Oper)(m:Nat)(L L1:Array Bool):Prop where
 lo:∀i,i<m->L.getD i true=L1.getD i true/\L.getD i false=L1.getD i false
 hi:∀i,m<=i->i<ops.size->L.getD i true=false
 sz:L.size=ops.size
 sz1:L1.size=m
theorem zxd{L L1:Array Bool}(hc:zsr ops m true)(r:Rel1 ops m L L1){j:Nat}(hj:j<m):j∈Region.ready .any ops L↔j∈Region.ready .any (zgi m ops) L1:=by
 have hon:∀(q:Nat),L.getD q false=true↔L1.getD q false=true:=λq=>by
  rcases Nat.lt_or_ge q m with k|k
  ·rw[(r.lo q k).2]
  ·have h1:L1.getD q false=false:=by simp[Array.getElem?_eq_none (show L1.size<=q by rw[r.sz1];exact k)]
   rw[h1]
   rcases Nat.lt_or_ge q ops.size with z|z
   ·have:=zfd (r.hi q k z);rw[this]
   ·have:L.getD q false=false:=by simp[Array.getElem?_eq_none (show L.size<=q by rw[r.sz];exact z)]
    rw[this]
 rw[mem_ready,mem_ready,z2s hj,(r.lo j hj).1]
 constructor
 ·rintro⟨h0,o,ho,hw⟩
  exact⟨h0,o,ho,λe he hb=>(hon _).1 (hw e he hb)⟩
 ·rintro⟨h0,o,ho,hw⟩
  exact⟨h0,o,ho,λe he hb=>(hon _).2 (hw e he hb)⟩
theorem ygk{L1:Array Bool}(hc:zsr ops m true)(h1:L1.size=m)(hr:Region.ready .any (zgi m ops) L1=[]):∀i,i<m->L1.getD i true=true:=by
 intro i
 induction i using Nat.strongRecOn with
 |ind i ih=>
  intro hi
  cases hx:L1.getD i true with
  |true=>rfl
  |false=>
   exfalso
   obtain⟨o,ho⟩:∃o,ops[i]? = some o:=⟨ops[i]'(Nat.lt_of_lt_of_le hi hc.le),Array.getElem?_eq_getElem _⟩
   have:i∈Region.ready .any (zgi m ops) L1:=mem_ready.2 ⟨hx,o,by rw[z2s hi];exact ho,λe he hb=>by
    have hwt:ydg o e.on:=⟨e,he,hb,rfl⟩
    have hbit:((twOf ops).getD i 0).testBit e.on=true:=yiy ho hwt
    have hlt:e.on<i:=by
     rcases Nat.lt_or_ge e.on i with k|k
     ·exact k
     ·have:=Nat.testBit_lt_two_pow (Nat.lt_of_lt_of_le (hc.up rfl i hi) (Nat.pow_le_pow_right (by decide) k))
      rw[this]at hbit;cases hbit
    have:=ih e.on hlt (by omega)
    have hl:e.on<L1.size:=by omega
    rw[Array.getD_eq_getD_getElem?,Array.getElem?_eq_getElem hl]at this ⊢
    exact this⟩
   rw[hr]at this;cases this
theorem ypa(hc:zsr ops m true)(hq:∀e a w,e≠.normal->Q1 e a w->Q e a w)(hn:∀a w,Q1 .normal a w->∃val,zuj ops m val/\YInv ops m val a/\wpAny P .any (zeo m val ops) Q (ops.size-m) (Array.replicate (ops.size-m) false) a w) :
  ∀(f:Nat) (L L1:Array Bool) (a:Act) (w:World),Rel1 ops m L L1->ziy ops L->wpAny P .any (zgi m ops) Q1 f L1 a w->wpAny P .any ops Q (f+(ops.size-m)) L a w:=by
 have fin:∀(f:Nat) (L L1:Array Bool) (a:Act) (w:World),Rel1 ops m L L1->Region.ready .any (zgi m ops) L1=[]->Q1 .normal a w->wpAny P .any ops Q (f+(ops.size-m)) L a w:=λf L L1 a w r hr hx=>by
  obtain⟨val,hp,inv,h⟩:=hn a w hx
  have hd:=ygk hc r.sz1 hr
  rw[Nat.add_comm]
  refine zs4 f _ L a w (z4f hc hp _ L _ a w ⟨λi hi=>?_,λi=>?_⟩ inv h)
  ·have h1:=hd i hi
   have hl:i<L1.size:=by rw[r.sz1];exact hi
   have h2:L1.getD i false=true:=by
    rw[Array.getD_eq_getD_getElem?,Array.getElem?_eq_getElem hl]at h1 ⊢
    exact h1
   rw[(r.lo i hi).1,(r.lo i hi).2];exact⟨h1,h2⟩
  ·rcases Nat.lt_or_ge (i+m) ops.size with k|k
   ·have h1:=r.hi (i+m) (by omega) k
    rw[h1,zfd h1]
    have:i<ops.size-m:=by omega
    simp[this]
   ·have h1:∀d,L.getD (i+m) d=d:=λd=>by rw[Array.getD_eq_getD_getElem?,Array.getElem?_eq_none (by rw[r.sz];exact k)];rfl
    have h2:∀d,(Array.replicate (ops.size-m) false).getD i d=d:=λd=>by rw[Array.getD_eq_getD_getElem?,Array.getElem?_eq_none (by simp;omega)];rfl
    rw[h1,h1,h2,h2];exact⟨rfl,rfl⟩
 intro f
 induction f with
 |zero=>intro L L1 a w r _ h;exact fin 0 L L1 a w r h.1 h.2
 |succ f ih=>
  intro L L1 a w r hcl h
  cases hr:Region.ready .any (zgi m ops) L1 with
  |nil=>exact fin (f+1) L L1 a w r hr (h.1 hr)
  |cons x xs=>
   have hx:x∈Region.ready .any (zgi m ops) L1:=by rw[hr];simp
   have hxm:x<m:=by
    have:=zec (mem_ready.1 hx).1
    rw[r.sz1]at this;exact this
   rw[show f+1+(ops.size-m)=(f+(ops.size-m))+1 by omega]
   refine⟨λhz=>?_,λj hj=>?_⟩
   ·have:=(zxd hc r hxm).2 hx
    rw[hz]at this;cases this
   ·have hjm:j<m:=by
     rcases Nat.lt_or_ge j m with k|k
     ·exact k
     ·exfalso
      have hjs:=(mem_ready.1 hj).1
      obtain⟨_,oj,hoj,_⟩:=mem_ready.1 hj
      have hlt:j<ops.size:=(Array.getElem?_eq_some_iff.1 hoj).1
      have hcs:=ziy.set hcl hj
      have hd:=ziy.through hcs j oj hoj (by rw[zde (zec hjs),if_pos rfl]) (hc.all rfl j k hlt x hxm)
      rw[zde (zec hjs),if_neg (by omega),(r.lo x hxm).2]at hd
      have h0:=zfd (mem_ready.1 hx).1
      rw[h0]at hd;cases hd
    have hj1:=(zxd hc r hjm).1 hj
    have s1:=zec (mem_ready.1 hj).1
    have s2:=zec (mem_ready.1 hj1).1
    refine z1r hc hq hjm (λa w k=>ih _ _ a w ⟨λq hq=>?_,λq h1 h2=>?_,by simpa using r.sz,by simpa using r.sz1⟩ (ziy.set hcl hj) k) (h.2 j hj1)
    ·rw[zde s1,zde s1,zde s2,zde s2]
     by_cases e:j=q
     ·subst e;simp
     ·rw[if_neg e,if_neg e,if_neg e,if_neg e];exact r.lo q hq
    ·rw[zde s1,if_neg (by omega)];exact r.hi q h1 h2
def cutQ(P:Program)(ops:Array Oper)(m:Nat)(draw:Bool)(Q:Exit->Act->World->Prop)(e:Exit)(a:Act)(w:World):Prop:=
 match e with
 |.normal=>∃val,zuj ops m val/\YInv ops m val a/\z1p P (zeo m val ops) draw Q a w
 |e=>Q e a w
theorem zxc(hc:zsr ops m draw){a:Act}{w:World}(h:z1p P (zgi m ops) draw (cutQ P ops m draw Q) a w):z1p P ops draw Q a w:=by
 have hpre:(zgi m ops).size=m:=by
  unfold zgi
  rw[List.size_toArray,List.length_take,Array.length_toList,Nat.min_eq_left hc.le]
 have hpost:∀val,(zeo m val ops).size=ops.size-m:=λval=>by
  unfold zeo
  rw[List.size_toArray,List.length_map,List.length_drop,Array.length_toList]
 have hq:∀e a w,e≠Exit.normal->cutQ P ops m draw Q e a w->Q e a w:=λe a w he k=>by cases e<;>first|exact absurd rfl he|exact k
 cases draw with
 |false=>
  have h:wpOps P (zgi m ops) _ (List.range (zgi m ops).size) a w:=h
  rw[hpre]at h
  show wpOps P ops Q (List.range ops.size) a w
  have hr:List.range ops.size=List.range m++(List.range (ops.size-m)).map (· + m):=by
   have:=List.range_add (n:=m) (m:=ops.size-m)
   rw[show m+(ops.size-m)=ops.size by have:=hc.le;omega]at this
   rw[this]
   congr 1
   exact List.map_congr_left λx _=>Nat.add_comm m x
  rw[hr]
  refine yac hc hq (λa w k=>?_) _ a w (λi hi=>List.mem_range.1 hi) h
  obtain⟨val,hp,inv,k⟩:=k
  have k:wpOps P (zeo m val ops) Q (List.range (zeo m val ops).size) a w:=k
  rw[hpost]at k
  exact z21 hc hp _ a w inv k
 |true=>
  have h:wpAny P .any (zgi m ops) _ (zgi m ops).size (Array.replicate (zgi m ops).size false) a w:=h
  rw[hpre]at h
  show wpAny P .any ops Q ops.size (Array.replicate ops.size false) a w
  have:=ypa (L:=Array.replicate ops.size false) hc hq (λa w k=>by
   obtain⟨val,hp,inv,k⟩:=k
   have k:wpAny P .any (zeo m val ops) Q (zeo m val ops).size (Array.replicate (zeo m val ops).size false) a w:=k
   rw[hpost]at k
   exact⟨val,hp,inv,k⟩) m (Array.replicate m false) a w ⟨λi hi=>?_,λi h1 h2=>by simp[h2],by simp,by simp⟩ (λj oj _ hl=>by rw[zdb]at hl;cases hl) h
  ·rw[show m+(ops.size-m)=ops.size by have:=hc.le;omega]at this
   exact this
  ·have:i<ops.size:=Nat.lt_of_lt_of_le hi hc.le
   simp[this,hi]
end
def zw0:SV->Option SV
 |.k x=>match flat x with
  |true=>some (.k x)
  |false=>none
 |.v x=>some (.v x)
 |_=>none
def valS:SV->Value
 |.k x=>x
 |.v x=>x
 |_=>undef
def ztc(l:List SV):List Operand->Option (List SV)
 |[]=>some []
 |x::xs=>match zw0 (evS l [] x),ztc l xs with
  |some y,some ys=>some (y::ys)
  |_,_=>none
def zz1(P:Program)(s:St):ResultVar->Option SV
 |.tmp t=>match zw0 (s.slots.getD t .junk)with
  |some x=>match zpf (valS x)with
   |true=>some x
   |false=>none
  |none=>none
 |.cell t ty=>match s.slots.getD t .junk with
  |.v (.pointer (some a))=>match a.spot,s.heap.getD a.block none with
   |none,some (.cells _ cs)=>match zep P ty cs a.off with
    |some u=>if(zei P ty=some true\/zag u=true)/\zpf u=true then some (.v u)else none
    |none=>none
   |_,_=>none
  |_=>none
def zuy(P:Program)(s:St):List ResultVar->Option (List SV)
 |[]=>some []
 |r::l=>match zz1 P s r,zuy P s l with
  |some x,some xs=>some (x::xs)
  |_,_=>none
def resN(P:Program)(rs:Array ResultVar)(s:St):Option SV:=
 match zuy P s rs.toList with
 |some [x]=>some x
 |some xs=>some (.v (.tuple (xs.map valS).toArray))
 |none=>none
def z0r(P:Program)(Xc:Tabs)(lp:Lp)(fu:Nat)(fn:Func)(xs:List SV)(h:List (Option HE))(k:SV->List (Option HE)->Out):Out:=
 match fn.body with
 |some c=>zbm P Xc lp fu c (λe st=>match e with
   |.exit _=>.fail
   |_=>match st.keep with
    |true=>match resN P fn.results st with
     |some x=>k x st.heap
     |none=>.fail
    |false=>.fail) {slots:=xs++List.replicate (fn.ntmps-xs.length) .junk,heap:=h,keep:=true}
 |none=>match lp 0 {slots:=xs,heap:=h,keep:=true}with
  |some (.leaf .ret st)=>k (st.slots.getD 0 .junk) st.heap
  |_=>.fail
def yki(n:Nat):List Nat->Bool
 |[]=>false
 |m::l=>bif Nat.beq m n then true else yki n l
def zlg(m:Nat):List Oper->List Nat
 |[]=>[]
 |o::l=>match o.guard with
  |none=>zlg m l
  |some (g,_)=>match Nat.blt g m && !(yki g (zlg m l))with
   |true=>g::zlg m l
   |false=>zlg m l
def gVal(s:St)(ops:Array Oper)(g:Nat):SV:=
 match (ops[g]?).bind (·.dst)with
 |some d=>s.slots.getD d .junk
 |none=>.junk
def updV(v:Nat->Option Bool)(g:Nat)(b:Bool):Nat->Option Bool:=λk=>bif Nat.beq k g then some b else v k
def noVal:Nat->Option Bool:=λ_=>none
def zke(s:St)(ops:Array Oper):List Nat->(Nat->Option Bool)->((Nat->Option Bool)->Out)->Out
 |[],v,k=>k v
 |g::gs,v,k=>match gVal s ops g with
  |.k (.bool b)=>match b with
   |true=>zke s ops gs (updV v g true) k
   |false=>zke s ops gs (updV v g false) k
  |.v (.bool b)=>.ite b (zke s ops gs (updV v g true) k) (zke s ops gs (updV v g false) k)
  |_=>.fail
def isInl(fns:Nat->Option Func)(o:Oper):Bool:=
 match o.op with
 |.call {callee:=.value (.func K),args:=_,argTypes:=_}=>(fns K).isSome
 |_=>false
def ybv(fns:Nat->Option Func):List Oper->Nat->Option (Nat×Oper)
 |[],_=>none
 |o::l,k=>match isInl fns o with
  |true=>some (k,o)
  |false=>ybv fns l (k+1)
def cutPt(fns:Nat->Option Func)(ops:Array Oper):Option Nat:=
 match ybv fns ops.toList 0 with
 |some (j,o)=>match o.guard with
  |some (g,_)=>some (g+1)
  |none=>some j
 |none=>none
def putS(s:St)(dst:Option Nat)(x:SV)(h:List (Option HE)):St:=
 {slots:=match dst with|some d=>s.slots.set d x|none=>s.slots,heap:=h,fix:=zoy dst s.fix,keep:=s.keep}
def z55(P:Program)(X Xc:Tabs)(fns:Nat->Option Func)(lps:Nat->Lp)(fu:Nat):Nat->Array Oper->Bool->St->Out
 |0,_,_,_=>.fail
 |r+1,ops,draw,s=>
  match cutPt fns ops with
  |none=>match zeh P X ops draw s with
   |some (s',ps)=>zjs ps (.leaf .normal s')
   |none=>.fail
  |some 0=>match ops[0]? with
   |some o=>match o.guard,o.op with
    |none,.call {callee:=.value (.func K),args,argTypes:=_}=>match fns K,ztc s.slots args.toList,cutB 1 draw ops with
     |some fn,some xs,true=>z0r P Xc (lps K) fu fn xs s.heap λx h=>
       zke (putS s o.dst x h) ops (zlg 1 (ops.toList.drop 1)) noVal λval=>match z5b 1 val (ops.toList.drop 1)with
        |true=>z55 P X Xc fns lps fu r (zeo 1 val ops) draw (putS s o.dst x h)
        |false=>.fail
     |_,_,_=>.fail
    |_,_=>.fail
   |none=>.fail
  |some (m+1)=>match cutB (m+1) draw ops,zeh P X (zgi (m+1) ops) draw s with
   |true,some (s1,ps)=>zjs ps (zke s1 ops (zlg (m+1) (ops.toList.drop (m+1))) noVal λval=>match z5b (m+1) val (ops.toList.drop (m+1))with
     |true=>z55 P X Xc fns lps fu r (zeo (m+1) val ops) draw s1
     |false=>.fail)
   |_,_=>.fail
def ybj(fns:Nat->Option Func):List Oper->Bool
 |[]=>false
 |o::l=>match isInl fns o with
  |true=>true
  |false=>ybj fns l
def inlT(P:Program)(X:Tabs)(fns:Nat->Option Func)(lps:Nat->Lp)(fu r:Nat):Nat->Tabs
 |0=>X
 |d+1=>{tb:=X.tb,td:=X.td,tr:=X.tr,dres:=X.dres,dty:=X.dty,pin:=X.pin,tx:=X.tx,dtmp:=X.dtmp,ext:=X.ext,pl:=X.pl,nw:=X.nw,sl:=X.sl,ow:=X.ow,gv:=X.gv,cl:=X.cl,gn:=X.gn,
        rx:=λops draw s=>match ybj fns ops.toList with
         |true=>some (z55 P X (inlT P X fns lps fu r d) fns lps fu r ops draw s)
         |false=>none}
section
variable{P:Program}{X Xc:Tabs}{w0:Base P}{w:World}{β:Env}{s:St}{a:Act}{ops:Array Oper}
theorem zwz{β:Env}{l:List SV}{x y:SV}{u:Value}(h:zw0 x=some y)(hd:Den β l x u):u=ren β (valS y)/\Den β l y u/\isG y=false/\(∀n∈names y,n∈names x):=by
 cases x with
 |k v=>
  simp only[zw0]at h
  split at h
  ·rename_i hf
   simp only[Option.some.injEq]at h;subst h
   exact⟨(show u=v from hd).trans (zdj hf).symm,hd,rfl,λn hn=>hn⟩
  ·cases h
 |v v=>
  simp only[zw0,Option.some.injEq]at h;subst h
  exact⟨hd,hd,rfl,λn hn=>hn⟩
 |_=>cases h
theorem zl6(m:M w0 β s a w):∀{l:List Operand} {xs:List SV},ztc s.slots l=some xs->l.map a.eval=xs.map (λx=>ren β (valS x))/\(∀(i:Nat) (u:Value),(l.map a.eval)[i]? = some u->Den β [] (xs.getD i .junk) u)/\(∀x∈xs,isG x=false)/\∀x∈xs,∀n∈names x,∃c,s.heap.getD n none=some c
 |[],xs,h=>by simp only[ztc,Option.some.injEq]at h;subst h;exact⟨rfl,λi u hu=>by simp at hu,λx hx=>(by cases hx),λx hx=>by cases hx⟩
 |x::l,xs,h=>by
  simp only[ztc]at h
  split at h
  ·rename_i y ys hy hys
   simp only[Option.some.injEq]at h;subst h
   have hd:Den β s.slots (evS s.slots [] x) (a.eval x):=zap m (λc hc=>by cases hc) x
   obtain⟨h1,h2,h3,h4⟩:=zwz hy hd
   obtain⟨i1,i2,i3,i4⟩:=zl6 m hys
   refine⟨by simp only[List.map_cons];rw[h1,i1],λi u hu=>?_,λz hz=>?_,λz hz n hn=>?_⟩
   ·cases i with
    |zero=>
     simp only[List.map_cons,List.getElem?_cons_zero,Option.some.injEq]at hu;subst hu
     exact zbg (l:=s.slots) (s:=y) (λ_ _=>rfl) (λc hc=>by rw[zbj h3]at hc;cases hc) h2
    |succ i=>exact i2 i u (by simpa using hu)
   ·rcases List.mem_cons.1 hz with rfl|hz
    ·exact h3
    ·exact i3 z hz
   ·rcases List.mem_cons.1 hz with rfl|hz
    ·exact zbt m (h4 n hn)
    ·exact i4 z hz n hn
  ·cases h
def Base.at_(w0:Base P)(β:Env)(h:List (Option HE)):Base P:={w0 with env:=β,anc:=λn=>∃c,h.getD n none=some c}
theorem Mem.go{h h':List (Option HE)}{β β':Env}(m:Mem w0 β' h' w):Mem (w0.at_ β h) β' h' w:=
 ⟨λn he hn=>by have:=m.ok n he hn;cases he<;>exact this,m.inj,m.refs,m.one,⟨m.below.os,m.below.tape,m.below.output,m.below.size,m.below.block⟩,m.mrefs⟩
theorem Mem.back{h h':List (Option HE)}{β β':Env}(m:Mem (w0.at_ β h) β' h' w):Mem w0 β' h' w:=
 ⟨λn he hn=>by have:=m.ok n he hn;cases he<;>exact this,m.inj,m.refs,m.one,⟨m.below.os,m.below.tape,m.below.output,m.below.size,m.below.block⟩,m.mrefs⟩
theorem zz0(m:M w0 β s a w){r:ResultVar}{x:SV}(h:zz1 P s r=some x):∃u,(zib a r).run P w=.ok u w/\u=ren β (valS x)/\(∀l,Den β l x u)/\isG x=false/\zpf (valS x)=true/\∀n∈names x,∃c,s.heap.getD n none=some c:=by
 have hd:∀t,Den β s.slots (s.slots.getD t .junk) (a.tmps.getD t undef):=λt=>by
  rw[Array.getD_eq_getD_getElem?]
  cases hu:a.tmps[t]? with
  |some u=>exact m.slot t u hu
  |none=>
   have hs:s.slots.length<=t:=by rw[←m.size];exact Array.getElem?_eq_none_iff.1 hu
   have:s.slots.getD t .junk=.junk:=by simp[List.getElem?_eq_none hs]
   rw[this];trivial
 cases r with
 |tmp t=>
  simp only[zz1]at h
  split at h
  ·rename_i y hy
   split at h
   ·rename_i hn
    simp only[Option.some.injEq]at h;subst h
    obtain⟨h1,h2,h3,h4⟩:=zwz hy (hd t)
    exact⟨_,rfl,h1,λl=>zbg (l:=s.slots) (s:=y) (λ_ _=>rfl) (λc hc=>by rw[zbj h3]at hc;cases hc) h2,h3,hn,λn hn'=>m.locs t n (h4 n hn')⟩
   ·cases h
  ·cases h
 |cell t ty=>
  simp only[zz1]at h
  split at h
  ·rename_i ad hev
   have hd':=hd t
   rw[hev]at hd'
   obtain⟨n,off,sp⟩:=ad
   dsimp only at h
   split at h
   ·rename_i ty' cs hn
    split at h
    ·rename_i u hu
     split at h
     ·rename_i h1
      simp only[Option.some.injEq]at h;subst h
      have hok:=m.mem.ok n _ hn
      have hd'':a.tmps.getD t undef=.pointer (some ⟨(β n).1,off,none⟩):=hd'
      have hrun:=zet (P:=P) hok.1 (zon (β:=β) hu h1.1)
      refine⟨ren β u,?_,rfl,λl=>rfl,rfl,h1.2,λq hq=>?_⟩
      ·simp only[zib,Sem.run_bind,hd'',asAddr,Sem.run_pure,Result.andThen_ok,hrun]
      ·obtain⟨v,hv,hr⟩:=zrs hu h1.1 hq
       exact m.mem.refs n _ _ hn v hv q hr
     ·cases h
    ·cases h
   ·cases h
  ·cases h
theorem zq7(m:M w0 β s a w):∀{rs:List ResultVar} {xs:List SV},zuy P s rs=some xs->∃us,(rs.mapM (zib a)).run P w=.ok us w/\us=xs.map (λx=>ren β (valS x))/\(∀x∈xs,isG x=false/\zpf (valS x)=true/\∀n∈names x,∃c,s.heap.getD n none=some c)/\∀x u,xs=[x]->us=[u]->∀l,Den β l x u
 |[],xs,h=>by simp only[zuy,Option.some.injEq]at h;subst h;exact⟨[],rfl,rfl,λx hx=>(by cases hx),λx u hx=>by cases hx⟩
 |r::rs,xs,h=>by
  simp only[zuy]at h
  split at h
  ·rename_i y ys hy hys
   simp only[Option.some.injEq]at h;subst h
   obtain⟨u,h1,h2,h3,h4,h5,h6⟩:=zz0 m hy
   obtain⟨us,i1,i2,i3,_⟩:=zq7 m hys
   refine⟨u::us,by rw[List.mapM_cons];simp only[Sem.run_bind,h1,Result.andThen_ok,i1,Sem.run_pure],by simp only[List.map_cons];rw[h2,i2],λx hx=>?_,λx v hx hv l=>?_⟩
   ·rcases List.mem_cons.1 hx with rfl|hx
    ·exact⟨h4,h5,h6⟩
    ·exact i3 x hx
   ·simp only[List.cons.injEq]at hx hv
    rw[←hx.1,←hv.1];exact h3 l
  ·cases h
theorem z48{x:Value}(h:zpf x=true)(β:Env):ren β x=ren1 β x:=by cases x<;>first|rfl|cases h
theorem zz3{x:Value}(h:zpf x=true):refs x=zbk x:=by cases x<;>first|rfl|cases h
theorem z66{x:SV}(h:isG x=false){n:Nat}(hn:n∈refs (valS x))(hx:(∃v,x=.k v/\flat v=true)\/∃v,x=.v v):n∈names x:=by
 rcases hx with⟨v,rfl,hf⟩|⟨v,rfl⟩
 ·simp only[valS]at hn;rw[zen hf]at hn;cases hn
 ·exact hn
theorem ygd{r:ResultVar}{x:SV}(h:zz1 P s r=some x):(∃v,x=.k v/\flat v=true)\/∃v,x=.v v:=by
 have key:∀{y z:SV},zw0 y=some z->(∃v,z=.k v/\flat v=true)\/∃v,z=.v v:=λ{y z} hy=>by
  cases y with
  |k v=>
   simp only[zw0]at hy
   split at hy
   ·rename_i hf
    simp only[Option.some.injEq]at hy;subst hy
    exact .inl ⟨v,rfl,hf⟩
   ·cases hy
  |v v=>simp only[zw0,Option.some.injEq]at hy;subst hy;exact .inr ⟨v,rfl⟩
  |_=>cases hy
 cases r with
 |tmp t=>
  simp only[zz1]at h
  split at h
  ·rename_i y hy
   split at h
   ·simp only[Option.some.injEq]at h;subst h;exact key hy
   ·cases h
  ·cases h
 |cell t ty=>
  simp only[zz1]at h
  repeat' split at h
  all_goals first|(simp only[Option.some.injEq]at h;subst h;exact .inr ⟨_,rfl⟩)|cases h
theorem z2k:∀{rs:List ResultVar} {xs:List SV},zuy P s rs=some xs->∀x∈xs,(∃v,x=.k v/\flat v=true)\/∃v,x=.v v
 |[],xs,h,x,hx=>by simp only[zuy,Option.some.injEq]at h;subst h;cases hx
 |r::rs,xs,h,x,hx=>by
  simp only[zuy]at h
  split at h
  ·rename_i y ys hy hys
   simp only[Option.some.injEq]at h;subst h
   rcases List.mem_cons.1 hx with rfl|hx
   ·exact ygd hy
   ·exact z2k hys x hx
  ·cases h
theorem zte{fn:Func}(m:M w0 β s a w){x:SV}(h:resN P fn.results s=some x):∃u,(results fn a.tmps).run P w=.ok u w/\(∀l,Den β l x u)/\isG x=false/\∀n∈names x,∃c,s.heap.getD n none=some c:=by
 have hres:results fn a.tmps=(do let vs←fn.results.mapM (zib a);pure (if h:vs.size=1 then vs[0]else .tuple vs)):=by
  unfold results
  refine congrArg (λf=>(do let vs←fn.results.mapM f;pure (if h:vs.size=1 then vs[0]else .tuple vs):Go.Sem Value)) ?_
  funext r;cases r<;>rfl
 rw[hres]
 have key:∀xs,zuy P s fn.results.toList=some xs->∃us,(fn.results.mapM (zib a)).run P w=.ok us.toArray w/\us=xs.map (λx=>ren β (valS x))/\(∀x∈xs,isG x=false/\zpf (valS x)=true/\∀n∈names x,∃c,s.heap.getD n none=some c)/\∀x u,xs=[x]->us=[u]->∀l,Den β l x u:=λxs hx=>by
  obtain⟨us,h1,h2⟩:=zq7 m hx
  refine⟨us,?_,h2⟩
  rw[Array.mapM_eq_mapM_toList,map_eq_pure_bind]
  simp only[Sem.run_bind,h1,Result.andThen_ok,Sem.run_pure]
 unfold resN at h
 split at h
 ·rename_i y hy
  simp only[Option.some.injEq]at h;subst h
  obtain⟨us,h1,h2,h3,h4⟩:=key _ hy
  subst h2
  obtain⟨g1,g2,g3⟩:=h3 y (by simp)
  refine⟨ren β (valS y),?_,λl=>h4 y _ rfl rfl l,g1,g3⟩
  simp only[Sem.run_bind,h1,Result.andThen_ok,Sem.run_pure]
  rfl
 ·rename_i xs hno hy
  simp only[Option.some.injEq]at h;subst h
  obtain⟨us,h1,h2,h3,h4⟩:=key _ hy
  have hkv:=z2k hy
  subst h2
  refine⟨.tuple (xs.map λx=>ren β (valS x)).toArray,?_,λl=>?_,rfl,λn hn=>?_⟩
  ·simp only[Sem.run_bind,h1,Result.andThen_ok,Sem.run_pure]
   have hlen:¬(xs.map λx=>ren β (valS x)).toArray.size=1:=λhl=>by
    rw[List.size_toArray,List.length_map]at hl
    match xs,hl with
    |[x],_=>exact hno x rfl
   rw[dif_neg hlen]
  ·show Value.tuple _=ren β (.tuple _)
   simp only[ren,List.toList_toArray,List.map_map]
   congr 2
   exact List.map_congr_left λx hx=>z48 (h3 x hx).2.1 β
  ·simp only[names,refs,List.toList_toArray]at hn
   obtain⟨v,hv,hn'⟩:=zbb.1 hn
   obtain⟨x,hx,rfl⟩:=List.mem_map.1 hv
   rw[←zz3 (h3 x hx).2.1]at hn'
   exact(h3 x hx).2.2 n (z66 (h3 x hx).1 hn' (hkv x hx))
 ·cases h
theorem ybp(m:M w0 β s a w){g:Nat}{b:Bool}(h:gVal s ops g=.k (.bool b)\/gVal s ops g=.v (.bool b)):yielded ops a.tmps g=some b:=by
 unfold gVal at h
 unfold yielded
 cases hd:(ops[g]?).bind (·.dst)with
 |none=>rw[hd]at h;rcases h with h|h<;>cases h
 |some d=>
  rw[hd]at h
  simp only[Option.bind_some]
  have hlt:d<s.slots.length:=by
   rcases Nat.lt_or_ge d s.slots.length with k|k
   ·exact k
   ·have:s.slots.getD d .junk=.junk:=by simp[List.getElem?_eq_none k]
    dsimp only at h
    rw[this]at h
    rcases h with h|h<;>cases h
  have hlt':d<a.tmps.size:=by rw[m.size];exact hlt
  have hs:=m.slot d _ (Array.getElem?_eq_getElem hlt')
  rw[Array.getElem?_eq_getElem hlt']
  have e:a.tmps[d]=.bool b:=by
   dsimp only at h
   rcases h with h|h
   ·rw[h]at hs;exact hs
   ·rw[h]at hs;exact hs
  rw[e]
theorem zea{F:zcg->St->Prop}(m:M w0 β s a w){k:(Nat->Option Bool)->Out}:∀{gs:List Nat} {v:Nat->Option Bool},(∀g b,v g=some b->yielded ops a.tmps g=some b)->(zke s ops gs v k).sat F->∃val,(∀g b,val g=some b->yielded ops a.tmps g=some b)/\(k val).sat F
 |[],v,hv,h=>⟨v,hv,h⟩
 |g::gs,v,hv,h=>by
  have up:∀b,yielded ops a.tmps g=some b->∀g' b',updV v g b g'=some b'->yielded ops a.tmps g'=some b':=λb hb g' b' he=>by
   unfold updV at he
   cases hq:Nat.beq g' g with
   |true=>
    rw[hq]at he
    simp only[cond_true,Option.some.injEq]at he;subst he
    rw[Nat.eq_of_beq_eq_true hq];exact hb
   |false=>rw[hq]at he;exact hv g' b' he
  simp only[zke]at h
  split at h
  ·rename_i b hb
   have hy:=ybp m (.inl hb)
   cases b with
   |true=>exact zea m (up true hy) h
   |false=>exact zea m (up false hy) h
  ·rename_i b hb
   have hy:=ybp m (.inr hb)
   cases b with
   |true=>exact zea m (up true hy) (h.1 rfl)
   |false=>exact zea m (up false hy) (h.2 rfl)
  ·exact h.elim
theorem yk1{β':Env}{st:St}{a':Act}{w':World}(m:M w0 β s a w)(ng:NoG s)(m':M (w0.at_ β s.heap) β' st a' w')(hk:st.keep=true){dst:Option Nat}{x:SV}{u:Value}(hx:∀l,Den β' l x u)(hg:isG x=false)(hn:∀n∈names x,∃c,st.heap.getD n none=some c):M w0 β' (putS s dst x st.heap) (a.put dst u) w':=by
 have ha:∀n c,s.heap.getD n none=some c->β' n=β n/\∃c',st.heap.getD n none=some c':=λn c hc=>m'.anc hk n ⟨c,hc⟩
 have keepD:∀i v l,Den β s.slots (s.slots.getD i .junk) v->Den β' l (s.slots.getD i .junk) v:=λi v l hv=>
  zbg (l:=s.slots) (λn hn=>by obtain⟨c,hc⟩:=m.locs i n hn;exact(ha n c hc).1) (λc hc=>by rw[zbj (ng.at_ i)]at hc;cases hc) hv
 have keepN:∀i n,n∈names (s.slots.getD i .junk)->∃c',st.heap.getD n none=some c':=λi n hn=>by obtain⟨c,hc⟩:=m.locs i n hn;exact(ha n c hc).2
 have zc2:s.keep=true->∀n,w0.anc n->β' n=w0.env n/\∃c,st.heap.getD n none=some c:=λhk n hn=>by
  obtain⟨e,c,hc⟩:=m.anc hk n hn
  exact⟨(ha n c hc).1.trans e,(ha n c hc).2⟩
 cases dst with
 |none=>exact {defers:=m.defers,anc:=zc2,size:=m.size,slot:=λi v hv=>keepD i v _ (m.slot i v hv),locs:=keepN,mem:=m'.mem.back,tie:=m.tie}
 |some d=>
  refine {defers:=m.defers,anc:=zc2,size:=by simp[Act.put,putS,m.size],slot:=λi v hv=>?_,locs:=λi n hn'=>?_,mem:=m'.mem.back,tie:=λp hp'=>?_}
  ·simp only[Act.put,Array.getElem?_setIfInBounds]at hv
   show Den β' (s.slots.set d x) ((s.slots.set d x).getD i .junk) v
   rw[zbe]
   by_cases e:d=i
   ·subst e
    by_cases hl:d<s.slots.length
    ·rw[if_pos ⟨rfl,hl⟩]
     rw[if_pos rfl,if_pos (by rw[m.size];exact hl)]at hv
     simp only[Option.some.injEq]at hv;subst hv
     exact hx _
    ·rw[if_pos rfl,if_neg (by rw[m.size];exact hl)]at hv;cases hv
   ·rw[if_neg (λx=>e x.1)]
    rw[if_neg e]at hv
    exact keepD i v _ (m.slot i v hv)
  ·have hn2:n∈names ((s.slots.set d x).getD i .junk):=hn'
   rw[zbe]at hn2
   split at hn2
   ·exact hn n hn2
   ·exact keepN i n hn2
  ·obtain⟨h3,h4⟩:=znv.1 hp'
   obtain⟨b,off,e1,e2⟩:=m.tie p h3
   refine⟨b,off,e1,?_⟩
   simp only[Act.put,Array.getElem?_setIfInBounds]
   rw[if_neg (Ne.symm h4)];exact e2
theorem z2q(ng:NoG s){dst:Option Nat}{x:SV}(hg:isG x=false)(h:List (Option HE)):NoG (putS s dst x h):=by
 intro y hy
 cases dst with
 |none=>exact ng y hy
 |some d=>
  rcases List.mem_or_eq_of_mem_set hy with k|k
  ·exact ng y k
  ·rw[k];exact hg
def ExtOk(P:Program)(K:Nat)(xs:List SV)(h:List (Option HE))(x:SV)(h':List (Option HE)):Prop:=
 isG x=false/\names x=[]/\(∀n c,h.getD n none=some c->∃c',h'.getD n none=some c')/\
  ∀(w0:Base P) (β:Env) (w:World),Mem w0 β h w->∃w' u,(callFunc K (xs.map λx=>ren β (valS x)).toArray).run P w=.ok (.value u) w'/\u=ren β (valS x)/\(∀l,Den β l x u)/\Mem w0 β h' w'
structure z6x(P:Program)(fns:Nat->Option Func)(lps:Nat->Lp):Prop where
 fn:∀K f,fns K=some f->P.funcs[K]? = some f/\(f.name=="runtime.NumGoroutine")=false
 lp:∀K f c,fns K=some f->f.body=some c->∀w0:Base P,LpOk P w0 (lps K) (zam c)
 ex:∀K f,fns K=some f->f.body=none->∀xs h st,lps K 0 {slots:=xs,heap:=h,keep:=true}=some (.leaf .ret st)->ExtOk P K xs h (st.slots.getD 0 .junk) st.heap
abbrev Lf(w0:Base P)(Q:Exit->Act->World->Prop):zcg->St->Prop:=λe s=>∀β a w,M w0 β s a w->NoG s->Q e.real a w
theorem zvl{fns:Nat->Option Func}{lps:Nat->Lp}{fu K:Nat}{fn:Func}(hc:zal P Xc)(hm:P.follows .mixedOrders=true)(hf:z6x P fns lps)(hK:fns K=some fn){F:zcg->St->Prop}{o:Oper}{args:Array Operand}{ts:Array TypeId}(ho:o.op=.call {callee:=.value (.func K),args:=args,argTypes:=ts}){xs:List SV}(hxs:ztc s.slots args.toList=some xs)
  {k:SV->List (Option HE)->Out} {Kc:Act->World->Prop} {Q:Exit->Act->World->Prop} (m:M w0 β s a w) (ng:NoG s) (h:(z0r P Xc (lps K) fu fn xs s.heap k).sat F)
  (hk:∀x h' β' a' w',M w0 β' (putS s o.dst x h') a' w'->NoG (putS s o.dst x h')->(k x h').sat F->Kc a' w'):o.wp P a w Kc Q:=by
 unfold z0r at h
 split at h
 ·rename_i c hb
  obtain⟨hfn,hname⟩:=hf.fn K fn hK
  obtain⟨e1,e2,e3,e4⟩:=zl6 m hxs
  have hargs:args.map a.eval=(xs.map λx=>ren β (valS x)).toArray:=by
   apply Array.ext'
   rw[Array.toList_map,e1]
  have hrun:(execOp a.eval o).run P w=.ok (.enter K (xs.map λx=>ren β (valS x)).toArray) w:=by
   have h1:(execOp a.eval o).run P w=(callFunc K (xs.map λx=>ren β (valS x)).toArray).run P w:=by
    simp only[execOp,ho,Go.resolve,Deferred.ofValue,Act.eval,Sem.run_bind,Sem.run_pure,Result.andThen_ok,invoke,hargs]
    simp
   rw[h1]
   unfold callFunc
   simp only[Sem.run_bind,run_program,Result.andThen_ok,hfn,hname,hb]
   simp
  unfold Oper.wp
  rw[hrun]
  simp only[Oper.upon]
  have hlen:(xs.map λx=>ren β (valS x)).length=xs.length:=by simp
  have mi:M (w0.at_ β s.heap) β {slots:=xs++List.replicate (fn.ntmps-xs.length) SV.junk,heap:=s.heap,keep:=true} {tmps:=(xs.map λx=>ren β (valS x)).toArray++Array.replicate (fn.ntmps-(xs.map λx=>ren β (valS x)).toArray.size) undef,defers:=[]} w:=by
   refine {defers:=rfl,anc:=λ_ n hn=>⟨rfl,hn⟩,size:=by simp,slot:=λi u hu=>?_,locs:=λi n hn=>?_,mem:=m.mem.go,tie:=λp hp=>by cases hp}
   ·by_cases hi:i<xs.length
    ·have e5:((xs.map λx=>ren β (valS x)).toArray++Array.replicate (fn.ntmps-(xs.map λx=>ren β (valS x)).toArray.size) undef)[i]? = (args.toList.map a.eval)[i]?:=by
      rw[Array.getElem?_append_left (by simpa using hi),e1];simp
     rw[e5]at hu
     have hd:=e2 i u hu
     have e6:(xs++List.replicate (fn.ntmps-xs.length) SV.junk).getD i SV.junk=xs.getD i SV.junk:=by
      simp only[List.getD_eq_getElem?_getD]
      rw[List.getElem?_append_left hi]
     show Den β _ ((xs++List.replicate (fn.ntmps-xs.length) SV.junk).getD i SV.junk) u
     rw[e6]
     refine zbg (λ_ _=>rfl) (λc hc=>?_) hd
     have hg:isG (xs.getD i SV.junk)=false:=by
      rw[List.getD_eq_getElem?_getD,List.getElem?_eq_getElem hi]
      exact e3 _ (List.getElem_mem _)
     rw[zbj hg]at hc;cases hc
    ·have e6:(xs++List.replicate (fn.ntmps-xs.length) SV.junk).getD i SV.junk=.junk:=by
      simp only[List.getD_eq_getElem?_getD]
      rw[List.getElem?_append_right (by omega),List.getElem?_replicate]
      split<;>rfl
     show Den β _ ((xs++List.replicate (fn.ntmps-xs.length) SV.junk).getD i SV.junk) u
     rw[e6];trivial
   ·have hn':n∈names ((xs++List.replicate (fn.ntmps-xs.length) SV.junk).getD i SV.junk):=hn
    by_cases hi:i<xs.length
    ·have e6:(xs++List.replicate (fn.ntmps-xs.length) SV.junk).getD i SV.junk=xs[i]:=by
      simp only[List.getD_eq_getElem?_getD]
      rw[List.getElem?_append_left hi,List.getElem?_eq_getElem hi];rfl
     rw[e6]at hn'
     exact e4 _ (List.getElem_mem _) n hn'
    ·have e6:(xs++List.replicate (fn.ntmps-xs.length) SV.junk).getD i SV.junk=.junk:=by
      simp only[List.getD_eq_getElem?_getD]
      rw[List.getElem?_append_right (by omega),List.getElem?_replicate]
      split<;>rfl
     rw[e6]at hn';cases hn'
  have ngi:NoG {slots:=xs++List.replicate (fn.ntmps-xs.length) SV.junk,heap:=s.heap,keep:=true}:=by
   intro x hx
   rcases List.mem_append.1 hx with hx|hx
   ·exact e3 x hx
   ·rw[(List.mem_replicate.1 hx).2];rfl
  refine calls_of_wp hfn hb ?_
  refine zd3 hc hm c (hf.lp K fn c hK hb (w0.at_ β s.heap)) _ _ _ _ w _ mi ngi h λe st β' a' w' m' ng' hl=>?_
  have fin:(match st.keep with
    |true=>match resN P fn.results st with
     |some x=>k x st.heap
     |none=>.fail
    |false=>Out.fail).sat F->a'.defers=[]/\∃v,(results fn a'.tmps).run P w'=.ok v w'/\Kc (a.put o.dst v) w':=λhl=>by
   split at hl
   ·rename_i hkp
    split at hl
    ·rename_i x hx
     obtain⟨u,u1,u2,u3,u4⟩:=zte m' hx
     exact⟨m'.defers,u,u1,hk x st.heap β' _ w' (yk1 m ng m' hkp u2 u3 u4) (z2q ng u3 _) hl⟩
    ·exact hl.elim
   ·exact hl.elim
  cases e with
  |normal=>exact fin hl
  |ret=>exact fin hl
  |exit id=>exact hl.elim
 ·rename_i hb
  split at h
  ·rename_i st hst
   obtain⟨x1,x2,x3,x4⟩:=hf.ex K fn hK hb xs s.heap st hst
   obtain⟨e1,e2,e3,e4⟩:=zl6 m hxs
   have hargs:args.map a.eval=(xs.map λx=>ren β (valS x)).toArray:=by
    apply Array.ext'
    rw[Array.toList_map,e1]
   obtain⟨w',u,r1,r2,r3,r4⟩:=x4 (w0.at_ β s.heap) β w m.mem.go
   have h1:(execOp a.eval o).run P w=(callFunc K (xs.map λx=>ren β (valS x)).toArray).run P w:=by
    simp only[execOp,ho,Go.resolve,Deferred.ofValue,Act.eval,Sem.run_bind,Sem.run_pure,Result.andThen_ok,invoke,hargs]
    simp
   have mi:M (w0.at_ β s.heap) β {slots:=[],heap:=st.heap,keep:=true} {tmps:=#[],defers:=[]} w':=
    {defers:=rfl,anc:=λ_ n hn=>⟨rfl,by obtain⟨c,hc⟩:=hn;exact x3 n c hc⟩,size:=rfl,slot:=λi u hu=>by simp at hu,locs:=λi n hn=>by simp[List.getD_eq_getElem?_getD,names]at hn,mem:=r4,tie:=λp hp=>by cases hp}
   refine zaf (h1.trans r1) (hk _ st.heap β _ w' (yk1 m ng mi rfl ?_ x1 ?_) (z2q ng x1 _) h)
   ·exact r3
   ·intro n hn;rw[x2]at hn;cases hn
  ·exact h.elim
theorem z9x{o:Oper}(hg:o.guard=none){draw:Bool}(hw:draw=true->∀e∈o.after,Region.binds .any e=false){Q:Exit->Act->World->Prop}(h:o.wp P a w (Q .normal) Q):z1p P #[o] draw Q a w:=by
 have hop:∀K,(∀a w,Q .normal a w->K a w)->wpOp P #[o] Q 0 K a w:=λK hK=>by
  unfold wpOp
  have:Region.wanted o (yielded #[o] a.tmps)=true:=by unfold Region.wanted;rw[hg]
  simp only[List.getElem?_toArray,List.getElem?_cons_zero]
  rw[if_pos this]
  exact .inl (Oper.wp_mono hK h)
 cases draw with
 |false=>
  show wpOps P #[o] Q (List.range 1) a w
  rw[show List.range 1=[0]from rfl,wpOps_cons]
  exact hop _ λa w k=>k
 |true=>
  show wpAny P .any #[o] Q 1 (Array.replicate 1 false) a w
  have hr:Region.ready .any #[o] (Array.replicate 1 false)≠[]:=λhe=>by
   have:(0:Nat)∈Region.ready .any #[o] (Array.replicate 1 false):=mem_ready.2 ⟨by simp,o,by simp,λe he hb=>by rw[hw rfl e he]at hb;cases hb⟩
   rw[he]at this;cases this
  refine⟨λhe=>absurd he hr,λi hi=>?_⟩
  have h0:i=0:=by
   have:=zec (mem_ready.1 hi).1
   simp at this;omega
  subst h0
  refine hop _ λa w k=>⟨?_,k⟩
  cases hx:Region.ready .any #[o] ((Array.replicate 1 false).setIfInBounds 0 true)with
  |nil=>rfl
  |cons x xs=>
   have hm:x∈Region.ready .any #[o] ((Array.replicate 1 false).setIfInBounds 0 true):=by rw[hx];simp
   have h1:=(mem_ready.1 hm).1
   have h2:=zec h1
   simp at h2
   subst h2
   simp at h1
theorem zr4{fns:Nat->Option Func}{lps:Nat->Lp}{fu:Nat}(ht:zal P X)(hc:zal P Xc)(hm:P.follows .mixedOrders=true)(hf:z6x P fns lps){Q:Exit->Act->World->Prop}:∀(r:Nat) (ops:Array Oper) (draw:Bool) (s:St),(z55 P X Xc fns lps fu r ops draw s).sat (Lf w0 Q)->∀(β:Env) (a:Act) (w:World),M w0 β s a w->NoG s->z1p P ops draw Q a w
 |0,_,_,_,h=>λ_ _ _ _ _=>h.elim
 |r+1,ops,draw,s,h=>λβ a w m ng=>by
  simp only[z55]at h
  split at h
  ·split at h
   ·rename_i s' ps hr
    obtain⟨h1,h2⟩:=ze1 h
    exact zxa ht m ng hr h1 λβ a w m' ng'=>h2 β a w m' ng'
   ·exact h.elim
  ·split at h
   ·rename_i o ho
    split at h
    ·rename_i K args ts hg hop
     split at h
     ·rename_i fn xs hK hxs hcut
      have hco:=zym hcut
      refine zxc hco ?_
      have hpre:zgi 1 ops = #[o]:=by
       unfold zgi
       apply Array.ext'
       rw[List.toList_toArray]
       rw[show ops.toList.take 1=[o]from ?_]
       have:ops.toList[0]? = some o:=by rw[Array.getElem?_toList];exact ho
       cases hl:ops.toList with
       |nil=>rw[hl]at this;cases this
       |cons y ys=>rw[hl]at this;simp only[List.getElem?_cons_zero,Option.some.injEq]at this;subst this;rfl
      rw[hpre]
      refine z9x hg (λhd e he=>?_) ?_
      ·cases hb:Region.binds .any e with
       |false=>rfl
       |true=>
        have h0:=hco.up hd 0 (by omega)
        have hbit:=yiy ho ⟨e,he,hb,rfl⟩
        have:((twOf ops).getD 0 0).testBit e.on=false:=Nat.testBit_lt_two_pow (Nat.lt_of_lt_of_le h0 (Nat.pow_le_pow_right (by decide) (Nat.zero_le _)))
        rw[this]at hbit;cases hbit
      ·refine zvl hc hm hf hK hop hxs m ng h λx h' β' a' w' m' ng' hl=>?_
       obtain⟨val,hv,hl⟩:=zea m' (λg b hz=>by cases hz) hl
       split at hl
       ·rename_i hpo
        exact⟨val,zxj hpo,λi o' g q b _ _ _ hb=>hv g b hb,zr4 ht hc hm hf r _ _ _ hl β' a' w' m' ng'⟩
       ·exact hl.elim
     ·exact h.elim
    ·exact h.elim
   ·exact h.elim
  ·split at h
   ·rename_i q s1 ps hcut hr
    obtain⟨h1,h2⟩:=ze1 h
    have hco:=zym hcut
    refine zxc hco (zxa ht m ng hr h1 λβ a w m' ng'=>?_)
    obtain⟨val,hv,hl⟩:=zea m' (λg b hz=>by cases hz) h2
    split at hl
    ·rename_i hpo
     exact⟨val,zxj hpo,λi o' g q b _ _ _ hb=>hv g b hb,zr4 ht hc hm hf r _ _ _ hl β a w m' ng'⟩
    ·exact hl.elim
   ·exact h.elim
theorem zjf{fns:Nat->Option Func}{lps:Nat->Lp}{fu r:Nat}(ht:zal P X)(hm:P.follows .mixedOrders=true)(hf:z6x P fns lps):∀d,zal P (inlT P X fns lps fu r d)
 |0=>ht
 |d+1=>⟨ht.nw,ht.pl,ht.tb,ht.tx,ht.td,ht.tr,ht.ow,(λops draw s o h w0 id Q a w β m ng hs=>by
   have h:(match ybj fns ops.toList with
    |true=>some (z55 P X (inlT P X fns lps fu r d) fns lps fu r ops draw s)
    |false=>none)=some o:=h
   split at h
   ·simp only[Option.some.injEq]at h;subst h
    refine zxb hm λw' hw'=>?_
    have m':M w0 β s a w':=by
     rcases hw' with rfl|rfl
     ·exact m
     ·exact m.drew'
    exact zr4 ht (zjf ht hm hf d) hm hf r ops draw s hs β a w' m' ng
   ·cases h),ht.gv⟩
end
theorem z9i{w:World}{b off:Nat}{arr:Array Value}{t:TypeId}{v:Value}(h:w.heap[b]? = some (.cells arr t (0,0))):(w.setCell ⟨b,off,none⟩ v).heap[b]? = some (.cells (arr.setIfInBounds off v) t (0,0)):=by
 simp[World.setCell,Array.getElem?_modify,h]
theorem zq0{w:World}{b k i:Nat}{v:Value}(h:k≠b):(w.setCell ⟨b,i,none⟩ v).heap[k]? = w.heap[k]?:=by
 simp[World.setCell,Array.getElem?_modify,Ne.symm h]
def outSV(q:Bool)(v:Value):SV:=match q with
 |true=>.k v
 |false=>.v v
def addA(q:Bool)(kd:IntKind)(st:St):Option Out:=
 match st.slots with
 |[.v (.pointer (some a)),y]=>match a.spot,valS y,st.heap.getD a.block none with
  |none,.int k d,some (.cells t cs)=>match cs[a.off]? with
   |some (.int k' x)=>match decide (k=kd/\k'=kd)with
    |true=>some (.leaf .ret {slots:=[outSV q (.int kd (kd.wrap (x+d)))],heap:=st.heap.set a.block (some (.cells t (cs.set a.off (.int kd (kd.wrap (x+d)))))),keep:=true})
    |false=>none
   |_=>none
  |_,_,_=>none
 |_=>none
theorem yf7{P:Program}(k:IntKind)(a d:Int)(w:World):(Op.intArith .add k a d).run P w=.ok (.int k (k.wrap (a+d))) w:=rfl
theorem ypd{P:Program}{K:Nat}{fn:Func}(hf:P.funcs[K]? = some fn)(hname:(fn.name=="runtime.NumGoroutine")=false)(hb:fn.body.isNone=true)(hn:Extern.findNext fn=none){kd:IntKind}(he:Extern.find fn=some (Extern.Atomic.update (Op.intArith .add) kd true)){q:Bool}{xs:List SV}{h:List (Option HE)}{st:St}
  (hst:addA q kd {slots:=xs,heap:=h,keep:=true}=some (.leaf .ret st)):ExtOk P K xs h (st.slots.getD 0 .junk) st.heap:=by
 unfold addA at hst
 dsimp only at hst
 split at hst
 ·rename_i a y
  split at hst
  ·rename_i k d t cs hsp hy hhe
   split at hst
   ·rename_i k' x hx
    split at hst
    ·rename_i hk
     obtain⟨rfl,rfl⟩:=of_decide_eq_true hk
     simp only[Option.some.injEq,Out.leaf.injEq,true_and]at hst
     subst hst
     refine⟨by cases q<;>rfl,by cases q<;>rfl,λn c hc=>?_,λw0 β w m=>?_⟩
     ·by_cases e:n=a.block
      ·subst e
       refine⟨.cells t (cs.set a.off (.int k' (k'.wrap (x+d)))),?_⟩
       have hl:a.block<h.length:=by
        rcases Nat.lt_or_ge a.block h.length with z|z
        ·exact z
        ·rw[List.getD_eq_getElem?_getD,List.getElem?_eq_none z]at hc;cases hc
       rw[zah,if_pos ⟨rfl,hl⟩]
      ·exact⟨c,by rw[zah,if_neg (λz=>e z.1.symm)];exact hc⟩
     ·obtain⟨b,off,sp⟩:=a
      dsimp only at hsp hx hhe
      subst hsp
      have hok:=(m.ok _ _ hhe).1
      have hcell:w.cell? ⟨(β b).1,off,none⟩=some (.int k' x):=by
       simp[World.cell?,hok,hx,ren0,renP]
      have hfr:w.frozen? ⟨(β b).1,off,none⟩=false:=by simp[World.frozen?,hok]
      have hrun:=run_call_add (P:=P) hf hname hb hn k' he (y:=d) hcell hfr (yf7 k' x d w)
      refine⟨w.setCell ⟨(β b).1,off,none⟩ (.int k' (k'.wrap (x+d))),.int k' (k'.wrap (x+d)),?_,?_,?_,?_⟩
      ·have e1:(List.map (λx=>ren β (valS x)) [SV.v (.pointer (some ⟨b,off,none⟩)),y]).toArray = #[.pointer (some ⟨(β b).1,off,none⟩),.int k' d]:=by
        simp only[List.map_cons,List.map_nil,hy]
        rfl
       rw[e1];exact hrun
      ·cases q<;>rfl
      ·intro l;cases q<;>exact rfl
      ·refine m.put hhe (λv hv k2 hk2=>?_) ?_ (λk2 hk2=>zq0 hk2) (World.size_setCell _ _ _) rfl rfl rfl
       ·rcases List.mem_or_eq_of_mem_set hv with hv|rfl
        ·exact m.refs _ _ _ hhe v hv k2 hk2
        ·simp[zaz,zbc]at hk2
       ·rw[z9i hok,List.map_set]
        simp[ren0,renP]
    ·cases hst
   ·cases hst
  ·cases hst
 ·cases hst
section
variable{P:Program}{X:Tabs}{lp:Lp}
theorem zyd(ht:zal P X)(hm:P.follows .mixedOrders=true){K:Nat}{fn:Func}(hf:P.funcs[K]? = some fn)(hn:(fn.name=="runtime.NumGoroutine")=false){c:Code}(hb:fn.body=some c)(hl:∀w0:Base P,Dyn.LpOk P w0 lp (zam c)){fuel:Nat}{t:TypeId}{cs:List Value}{az:List LA}{r:RV}{O:RO}
  (hp:pOks (zlo az)=true) (hla:laOk 1 az=true) (hlf:zlc [(t,cs)]=true) (hO:(zsd P X lp fuel fn [(t,cs)] az).ro P fn.results=O) (hs:O.sat λr'=>RVLe r' r):zlp P K az t cs r:=by
 intro w F b us hF hnb hcell0 hden
 have hnd:[b].Nodup:=by simp
 have hdis:∀q,q∈[b]->¬F q:=λq hq=>by rw[List.mem_singleton]at hq;subst hq;exact hnb
 have hla0:zjz w [b] [(t,cs)]:=⟨hcell0,trivial⟩
 generalize hbs:[b]=bs at hnd hdis hla0 hden
 generalize hlent:[(t,cs)]=lent at hla0 hlf hO
 have hll1:lent.length=1:=by rw[←hlent];rfl
 rw[←hll1]at hla
 have hrun:(callFunc K us.toArray).run P w=.ok (.enter K us.toArray) w:=by
  unfold callFunc
  simp only[Sem.run_bind,run_program,Result.andThen_ok,hf,hn,hb]
  simp
 rw[hrun]
 refine⟨rfl,?_⟩
 let w0:Base P:=⟨w,F,λb hb=>(hF b hb).1,bs,hdis,λb hb=>(hF b hb).2,λ_=>False,λ_ h=>h.elim,λ_=>(0,λ_=>.bool false),λ_=>False⟩
 obtain⟨hlen,hget⟩:=zo5 hla0
 let β0:Env:=λi=>(bs.getD i 0,λ_=>.bool false)
 have hβ0:∀(i b:Nat),bs[i]? = some b->(β0 i).1=b:=λi b hi=>by
  show bs.getD i 0=b
  rw[List.getD_eq_getElem?_getD,hi];rfl
 have hcell:∀n he,(zfh lent).getD n none=some he->∃b t cs,bs[n]? = some b/\lent[n]? = some (t,cs)/\he=.cells t cs/\w.heap[b]? = some (.cells cs.toArray t (0,0)):=λn he hn=>by
  have hlt:n<lent.length:=by
   rcases Nat.lt_or_ge n lent.length with z|z
   ·exact z
   ·rw[List.getD_eq_getElem?_getD,List.getElem?_eq_none (by simpa [zfh]using z)]at hn;cases hn
  obtain⟨t,cs,e1,e2⟩:=hget n (bs[n]'(by omega)) (List.getElem?_eq_getElem _)
  have:=zij lent [] n e1
  rw[List.append_nil]at this
  rw[this]at hn
  exact⟨_,t,cs,List.getElem?_eq_getElem _,e1,by simpa using hn.symm,e2⟩
 have m0:Mem w0 β0 (zfh lent) w:=by
  refine⟨λn he hn=>?_,λn k c d b hn hk hc hd=>?_,λn t cs hn v hv q hq=>?_,λ_ _=>rfl,⟨rfl,rfl,rfl,Nat.le_refl _,λ_ _ _=>rfl⟩,λn v i hn=>by
   obtain⟨b,t,cs,h1,h2,e,h3⟩:=hcell n _ hn
   cases e⟩
  ·obtain⟨b,t,cs,h1,h2,rfl,h3⟩:=hcell n he hn
   have e:=hβ0 n b h1
   refine⟨?_,.inr ?_⟩
   ·rw[e,zbi λy hy=>zbn (za4.1 (zg1 hlf n t cs h2) y hy)];exact h3
   ·rw[e];exact List.mem_of_getElem? h1
  ·obtain⟨b1,t,cs,h1,h2,rfl,h3⟩:=hcell n c hn
   obtain⟨b2,t',cs',k1,k2,rfl,k3⟩:=hcell k d hk
   simp only[zc8,Option.some.injEq]at hc hd
   rw[hβ0 n b1 h1]at hc
   rw[hβ0 k b2 k1]at hd
   subst hc;subst hd
   exact zrj hnd n k _ h1 k1
  ·obtain⟨b,t',cs',h1,h2,e,h3⟩:=hcell n _ hn
   simp only[HE.cells.injEq]at e
   obtain⟨rfl,rfl⟩:=e
   rw[zb8 (za4.1 (zg1 hlf n t cs h2) v hv)]at hq;cases hq
 obtain⟨hdv,hal⟩:=zf8 hden
 have hll:(zfh lent).length=lent.length:=by simp[zfh]
 obtain⟨β,i1,i2,i3,i4,i5,i6⟩:=zkp (w0:=w0) (zlo az) (zmt az us) (zfh lent) _ m0 (λb hb=>.inl hb) hp hdv
 rw[hll]at i2 i3 i4 i5 i6
 have hβ:∀(i b:Nat),bs[i]? = some b->(β i).1=b:=λi b hi=>by
  obtain⟨t,cs,e1,_⟩:=hget i b hi
  have:=zij lent [] i e1
  rw[List.append_nil]at this
  rw[i1 i _ this];exact hβ0 i b hi
 obtain⟨p1,p2,p3,p4⟩:=zkg (H:=zfh lent++(zej lent.length (zlo az)).2) (n:=lent.length) hβ (λi hi=>by
  obtain⟨t,cs⟩:=lent[i]
  exact⟨_,zij lent _ i (t:=lent[i].1) (cs:=lent[i].2) (by rw[List.getElem?_eq_getElem hi])⟩) az us _ hden hla i3 i4 i5 i6
 have m:M w0 β (zmm fn lent az) {tmps:=us.toArray++Array.replicate (fn.ntmps-us.toArray.size) undef,defers:=[]} w:=by
  have e1:∀i,i<us.length->(zmm fn lent az).slots.getD i .junk=(zfx az (zej lent.length (zlo az)).1).getD i .junk:=λi hi=>by
   simp only[zmm,List.getD_eq_getElem?_getD]
   rw[List.getElem?_append_left (by rw[p1];exact hi)]
  have e2:∀i,us.length<=i->(zmm fn lent az).slots.getD i .junk=.junk:=λi hi=>by
   simp only[zmm,List.getD_eq_getElem?_getD]
   rw[List.getElem?_append_right (by rw[p1];exact hi),List.getElem?_replicate]
   split<;>rfl
  have e3:∀i,i<us.length->(us.toArray++Array.replicate (fn.ntmps-us.toArray.size) undef)[i]? = us[i]?:=λi hi=>by
   rw[Array.getElem?_append_left (by simpa using hi)];simp
  refine {defers:=rfl,anc:=λh=>(by cases h),size:=by simp[zmm,p1,hal],slot:=λi u hu=>?_,locs:=λi n hn=>?_,mem:=i2,tie:=λp hp=>?_}
  ·by_cases hi:i<us.length
   ·rw[e3 i hi]at hu
    rw[e1 i hi]
    exact zbg (λ_ _=>rfl) (λc hc=>by
     have hg:isG ((zfx az (zej lent.length (zlo az)).1).getD i .junk)=false:=by
      rw[List.getD_eq_getElem?_getD,List.getElem?_eq_getElem (by rw[p1];exact hi)]
      exact p4 _ (List.getElem_mem _)
     rw[zbj hg]at hc;cases hc) (p2 i u hu)
   ·rw[e2 i (by omega)];trivial
  ·by_cases hi:i<us.length
   ·rw[e1 i hi]at hn
    exact p3 i n hn
   ·rw[e2 i (by omega)]at hn;cases hn
  ·obtain⟨_,b,off,h2,h3⟩:=zim hden p hp
   rw[Nat.sub_zero]at h3
   exact⟨b,off,h2,by rw[e3 p.1 (List.getElem?_eq_some_iff.1 h3).1];exact h3⟩
 have ng:NoG (zmm fn lent az):=by
  intro x hx
  rcases List.mem_append.1 hx with hx|hx
  ·exact p4 x hx
  ·rw[(List.mem_replicate.1 hx).2];rfl
 have hsat:=ztd (hO▸hs)
 unfold zsd at hsat
 rw[hb]at hsat
 refine calls_of_wp hf hb ?_
 refine zd3 ht hm c (hl w0) .leaf _ _ _ w _ m ng hsat λe s β a w' m' _ hl=>?_
 obtain⟨he,r',hr,hq⟩:=hl
 obtain⟨u,hu1,hu2⟩:=ze2 m' hr
 have hpost:a.defers=[]/\∃v',(results fn a.tmps).run P w'=.ok v' w'/\∃u,Ending.returned v'=.returned u/\DenR w' (λq=>F q\/(w.heap.size<=q/\q<w'.heap.size/\zar w' q)) r u/\ButB b w w':=
  ⟨m'.defers,u,hu1,u,rfl,zjq hq hu2,⟨m'.mem.below.os,m'.mem.below.tape,m'.mem.below.output,m'.mem.below.size,λk hk hx=>m'.mem.below.block k hk (by show k∉bs;rw[←hbs];simpa using hx)⟩⟩
 rcases he with rfl|rfl<;>exact hpost
abbrev zsp:=Nat×(List LA->TypeId->List Value->Option (RV×List Prop))
def gvOf:List zsp->Nat->Option (List LA->TypeId->List Value->Option (RV×List Prop))
 |[],_=>none
 |e::es,K=>bif Nat.beq e.1 K then some e.2 else gvOf es K
def zlk(P:Program)(e:zsp):Prop:=∀az t cs r ps,e.2 az t cs=some (r,ps)->allP ps->zlp P e.1 az t cs r
theorem zvn:∀{es:List zsp},(∀e∈es,zlk P e)->∀K f az t cs r ps,gvOf es K=some f->f az t cs=some (r,ps)->allP ps->zlp P K az t cs r
 |[],_=>λK f az t cs r ps h=>by cases h
 |e::es,h=>λK f az t cs r ps hk hv=>by
  simp only[gvOf]at hk
  cases hb:Nat.beq e.1 K with
  |true=>
   rw[hb]at hk
   have:e.1=K:=Nat.eq_of_beq_eq_true hb
   subst this
   simp only[cond_true,Option.some.injEq]at hk;subst hk
   exact h e (by simp) az t cs r ps hv
  |false=>
   rw[hb]at hk
   exact zvn (es:=es) (λx hx=>h x (by simp[hx])) K f az t cs r ps hk hv
def gvT(X:Tabs)(es:List zsp):Tabs:={tb:=X.tb,td:=X.td,tr:=X.tr,dres:=X.dres,dty:=X.dty,pin:=X.pin,tx:=X.tx,dtmp:=X.dtmp,ext:=X.ext,pl:=X.pl,nw:=X.nw,sl:=X.sl,ow:=X.ow,gv:=gvOf es,rx:=X.rx,cl:=X.cl,gn:=X.gn}
theorem gvT_ok(h:zal P X){es:List zsp}(hg:∀e∈es,zlk P e):zal P (gvT X es):=⟨h.nw,h.pl,h.tb,h.tx,h.td,h.tr,h.ow,h.rx,zvn hg⟩
end
end Go.Proofs.YtmekpbopoknigaaGreatDoor.Dyn

import Derived.Test.YtmekpbopoknigaaGreatDoorQP
import Derived.Test.YtmekpbopoknigaaGreatDoorQM
import Derived.Laws.Externs
import Derived.Test.YtmekpbopoknigaaGreatDoorQO
namespace Go.Proofs.YtmekpbopoknigaaGreatDoor
open Go Go.RowKit Sym
set_option maxRecDepth 1000000
def tab0:Dyn.Tabs:={tb:=λ_ _=>none,td:=λ_ _=>none,dres:=λ_=>false,dty:=λ_=>false,gn:=true}
def fnsL:List (Nat×Func)->Nat->Option Func
 |[],_=>none
 |(k,f)::l,n=>bif Nat.beq n k then some f else fnsL l n
structure Wd where
 at_:Int
 ext:Bool
 fst:Bool
 txt:ByteArray
structure Rd where
 n:Nat
 w:Nat->Wd
 m:Nat
 b:Nat->Int
 at_:Int
 grp:Bool
 inn:Int
def wdC(x:Wd):List Dyn.DC:=[cI x.at_,cB x.ext,cB x.fst,.p (.string x.txt)]
def byC(b:Nat->Int)(i:Nat):List Dyn.DC:=[.p (.int .u8 (b i))]
def rdO:Rd:=⟨0,λ_=>⟨0,false,false,ByteArray.empty⟩,0,λ_=>0,0,false,0⟩
def putN{α:Type}(f:Nat->α)(n:Nat)(x:α):Nat->α:=λj=>bif Nat.blt j n then f j else x
def strN(m:Nat)(b:Nat->Int):ByteArray:=Dyn.yj2 m (byC b)
def zxh(R:Rd):Rd:=⟨R.n+1,putN R.w R.n ⟨R.at_,R.grp,R.inn==0,strN R.m R.b⟩,0,R.b,R.at_,R.grp,bif R.grp then W (R.inn+1)else R.inn⟩
def z49(R:Rd)(c:Int):Rd:=⟨R.n,R.w,R.m+1,putN R.b R.m c,R.at_,R.grp,R.inn⟩
def wdG(s:ByteArray)(k:Nat)(a:Rd×Int×Int):Bool×(Rd×Int×Int):=
 let c:=Dyn.zhb s k
 let R:=a.1
 bif (bif c==13 then true else c==10)then(true,R,0,0)
 else bif (bif decide (c<32)then true else decide (c>126))then(false,R,k,2)
 else bif c==42 then bif (R.m:Int)==0 then(false,R,k,2)else(true,zxh R,0,0)
 else bif c==37 then bif (bif decide ((R.m:Int)>0)then true else bif R.grp then R.inn==0 else false)then(false,R,k,2)else(true,⟨R.n,R.w,R.m,R.b,R.at_,!R.grp,0⟩,0,0)
 else bif (R.m:Int)==0 then bif (R.n:Int)==20000 then(false,R,k,6)else bif (R.m:Int)==10000 then(false,R,k,6)else(true,z49 ⟨R.n,R.w,R.m,R.b,k,R.grp,R.inn⟩ c,0,0)
 else bif (R.m:Int)==10000 then(false,R,k,6)else(true,z49 R c,0,0)
def zj1(s:ByteArray):Bool×(Rd×Int×Int):=runN (wdG s) (rdO,0,0) s.size
def z61(s:ByteArray):Nat×(Nat->Wd)×Int×Int:=
 bif decide ((s.size:Int)>1000000)then(0,rdO.w,0,6)
 else bif (zj1 s).1 then bif (bif decide (((zj1 s).2.1.m:Int)>0)then true else(zj1 s).2.1.grp)then(0,rdO.w,s.size,2)else((zj1 s).2.1.n,(zj1 s).2.1.w,0,0)
 else(0,rdO.w,(zj1 s).2.2.1,(zj1 s).2.2.2)
theorem yix(s:ByteArray):∀k a,runN (wdG s) (rdO,0,0) k=(true,a)->a.1.n<=k/\a.1.m<=k
 |0,a,h=>by
  simp only[runN,Prod.mk.injEq,true_and]at h;subst h;exact⟨Nat.le_refl _,Nat.le_refl _⟩
 |k+1,a,h=>by
  simp only[runN]at h
  split at h
  ·rename_i b hb
   have i:=yix s k b hb
   have t:∀{x y:Bool×(Rd×Int×Int)} {q:Bool},(bif q then x else y)=(true,a)->x=(true,a)\/y=(true,a):=λ{x y q} e=>by cases q<;>simp_all
   have f:∀{x:Rd×Int×Int} {p:Prop},(false,x)=(true,a)->p:=λe=>by cases e
   have g:∀{x:Rd},(true,x,(0:Int),(0:Int))=(true,a)->a.1=x:=λe=>by cases e;rfl
   unfold wdG at h
   dsimp only at h
   rcases t h with h|h
   ·rw[g h];omega
   rcases t h with h|h
   ·exact f h
   rcases t h with h|h
   ·rcases t h with h|h
    ·exact f h
    ·rw[g h];unfold zxh;dsimp only;omega
   rcases t h with h|h
   ·rcases t h with h|h
    ·exact f h
    ·rw[g h];dsimp only;omega
   rcases t h with h|h
   ·rcases t h with h|h
    ·exact f h
    rcases t h with h|h
    ·exact f h
    ·rw[g h];unfold z49;dsimp only;omega
   rcases t h with h|h
   ·exact f h
   ·rw[g h];unfold z49;dsimp only;omega
  ·cases h
theorem zvg{t:TypeId}{n:Nat}{f f' g:Nat->List Dyn.DC}(h:∀i,i<n->f i=f' i)(h2:g 0=f' n):Dyn.HeLe (some (.own t (n+1) (Dyn.appF n f g))) (some (.own t (n+1) f')):=by
 refine⟨rfl,rfl,λi hi=>?_⟩
 unfold Dyn.appF
 by_cases k:i<n
 ·rw[show Nat.blt i n=true from by rw[Nat.blt_eq];exact k];exact h i k
 ·rw[show Nat.blt i n=false from by rw[Bool.eq_false_iff];intro h;rw[Nat.blt_eq]at h;exact k h]
  have:i=n:=by omega
  subst this
  rw[Nat.sub_self];exact h2
theorem zu2{α:Type}{f:Nat->α}{n i:Nat}{x:α}(h:i<n):putN f n x i=f i:=by
 unfold putN;rw[show Nat.blt i n=true from by rw[Nat.blt_eq];exact h];rfl
theorem zni{α:Type}{f:Nat->α}{n:Nat}{x:α}:putN f n x n=x:=by
 unfold putN;rw[show Nat.blt n n=false from by rw[Bool.eq_false_iff];intro h;rw[Nat.blt_eq]at h;omega];rfl
noncomputable def fnsW:Nat->Option Func:=fnsL [(125,Tryz.f125),(178,Tryz.f178)]
theorem yn2:Dyn.z6x Tryz.prog fnsW (λ_=>Dyn.noLp) where
 fn K f h:=by
  unfold fnsW fnsL at h
  cases e:Nat.beq K 125 with
  |true=>rw[e]at h;have:=Nat.eq_of_beq_eq_true e;subst this;cases h;exact⟨Tryz.func125,by kernel_rfl⟩
  |false=>
   rw[e]at h;unfold fnsL at h
   cases e:Nat.beq K 178 with
   |true=>rw[e]at h;have:=Nat.eq_of_beq_eq_true e;subst this;cases h;exact⟨Tryz.func178,by kernel_rfl⟩
   |false=>rw[e]at h;cases h
 lp K f c h h2 w0:=Dyn.zcl _ w0
 ex K f h hb xs hp st hst:=by cases hst
noncomputable def tabW:Dyn.Tabs:=Dyn.inlT Tryz.prog tab0 fnsW (λ_=>Dyn.noLp) 3 6 3
theorem yl8:Dyn.zal Tryz.prog tab0:=by
 constructor
 case tb=>intro K args v ps h;simp[tab0]at h
 all_goals (intros;simp_all [tab0])
theorem z8n:Dyn.zal Tryz.prog tabW:=Dyn.zjf yl8 mo yn2 3
def wdS(s:ByteArray)(R:Rd)(i:Int):Dyn.St:=mkS 47 [(0,.v (.string s)),(5,sL 0),(6,sI i)] [some (.cells 261 [.slice (some ⟨1,0,some 0⟩) R.n 0,.slice (some ⟨2,0,some 0⟩) R.m 0,.int .i64 R.at_,.bool R.grp,.int .i64 R.inn]),some (.own 226 R.n (λi=>wdC (R.w i))),some (.own 5 R.m (byC R.b))]
def wdE(p e:Int):Dyn.St:=mkS 47 [(2,.k (.slice none 0 0)),(3,sI p),(4,.k (vi e))] []
def wdL(m:Nat):Dyn.Out->Dyn.Out:=Dyn.Out.side [(0:Int)<=0/\(0:Int)<=0/\(0:Int)<=(m:Int)/\(m:Int)<=(m:Int)]
def wdA(s:ByteArray)(R:Rd)(i:Int)(c:Int)(p:Int):Dyn.St:=mkS 47 [(0,.v (.string s)),(5,sL 0),(6,sI (W (i+1)))] [some (.cells 261 [.slice (some ⟨1,0,some 0⟩) R.n 0,.slice (some ⟨2,0,some 0⟩) (R.m+1) 0,.int .i64 p,.bool R.grp,.int .i64 R.inn]),some (.own 226 R.n (λi=>wdC (R.w i))),some (.own 5 (R.m+1) (Dyn.appF R.m (byC R.b) (λ_=>[.p (.int .u8 c)])))]
def wdX(s:ByteArray)(R:Rd)(i:Int)(q:Int):Dyn.St:=mkS 47 [(0,.v (.string s)),(5,sL 0),(6,sI (W (i+1)))] [some (.cells 261 [.slice (some ⟨1,0,some 0⟩) (R.n+1) 0,.slice (some ⟨2,0,some 0⟩) 0 0,.int .i64 R.at_,.bool R.grp,.int .i64 q]),some (.own 226 (R.n+1) (Dyn.appF R.n (λi=>wdC (R.w i)) (λ_=>wdC ⟨R.at_,R.grp,R.inn==0,strN R.m R.b⟩))),some (.own 5 0 (byC R.b))]
def wdT(s:ByteArray)(R:Rd)(i:Int):Dyn.Out:=
 .ite (decide (i<(s.size:Int))) (.side [0<=i/\i<(s.size:Int)]
  (.ite (bif Dyn.zhb s i==13 then true else Dyn.zhb s i==10) (.leaf .normal (wdS s R (W (i+1))))
  (.ite (bif decide (Dyn.zhb s i<32)then true else decide (Dyn.zhb s i>126)) (.leaf .ret (wdE i 2))
  (.ite (Dyn.zhb s i==42) (.ite ((R.m:Int)==0) (.leaf .ret (wdE i 2)) (.side [∀k,k<R.m->byC R.b k=[.p (.int .u8 (Dyn.z39 (byC R.b k)))]]
   (.ite R.grp (.side [szP 32 R.n] (wdL R.m (.leaf .normal (wdX s R i (W (R.inn+1)))))) (.side [szP 32 R.n] (wdL R.m (.leaf .normal (wdX s R i R.inn)))))))
  (.ite (Dyn.zhb s i==37) (.ite (bif decide ((R.m:Int)>0)then true else bif R.grp then R.inn==0 else false) (.leaf .ret (wdE i 2)) (.leaf .normal (wdS s ⟨R.n,R.w,R.m,R.b,R.at_,!R.grp,0⟩ (W (i+1)))))
  (.ite ((R.m:Int)==0) (.ite ((R.n:Int)==20000) (.leaf .ret (wdE i 6)) (.ite ((R.m:Int)==10000) (.leaf .ret (wdE i 6)) (.side [szP 1 R.m] (.leaf .normal (wdA s R i (Dyn.zhb s i) i)))))
   (.ite ((R.m:Int)==10000) (.leaf .ret (wdE i 6)) (.side [szP 1 R.m] (.leaf .normal (wdA s R i (Dyn.zhb s i) R.at_)))))))))) (.leaf (.exit 0) (wdS s R i))
noncomputable def wdLp(s:ByteArray):Dyn.Lp:=λid st=>match id with
 |0=>some (.side [Dyn.nilCell 0 1 5 (byC rdO.b) (Dyn.nilCell 0 0 226 (λi=>wdC (rdO.w i)) (zvi 47 [] [5] [] [0,5,6] (2 ^ 6) st))=wdS s rdO 0,(s.size:Int)<=1000000]
   (.ite (zj1 s).1 (.leaf .normal (wdS s (zj1 s).2.1 s.size)) (.leaf .ret (wdE (zj1 s).2.2.1 (zj1 s).2.2.2))))
 |_=>none
theorem wd_b0:zam (zab (blkD Tryz.f101.body 0))=[(1,blkD Tryz.f101.body 1)]:=by kernel_rfl
theorem z63:zam (zbx Tryz.f101.body)=[(0,.loop (zab (blkD Tryz.f101.body 0))),(1,blkD Tryz.f101.body 1)]:=by kernel_rfl
theorem wdB_w(s:ByteArray)(R:Rd)(i:Int):(Dyn.zbm Tryz.prog tabW (wdLp s) 3 (zab (blkD Tryz.f101.body 0)) .leaf (wdS s R i)).rl (zfc 47 [0] [] [(0,0),(0,1)] [0,5,6] [] [2,3,4])=wdT s R i:=by kernel_rfl
theorem yk3(s:ByteArray)(w0:Dyn.Base Tryz.prog)(st:Dyn.St)(o:Dyn.Out)(h:wdLp s 0 st=some o):Dyn.zai Tryz.prog w0 0 (.loop (zab (blkD Tryz.f101.body 0))) st o:=by
 simp only[wdLp,Option.some.injEq]at h
 subst h
 refine zdv λhS hn=>?_
 refine zfv (fuel:=3) z8n mo (lp:=wdLp s) (by rw[wd_b0];exact zaa (λs o h=>by cases h) zao) (λk (a:Rd×Int×Int)=>wdS s a.1 (k:Nat)) s.size (wdG s) (rdO,0,0) (λa=>wdE a.2.1 a.2.2) (zfc 47 [0] [] [(0,0),(0,1)] [0,5,6] [] [2,3,4]) (zed 47 _ _ _ _ _ _) (λk a=>wdT s a.1 (k:Nat)) (λk a=>wdB_w s a.1 (k:Nat)) (λk a hk ha=>?_) (λa ha=>?_) (hS▸(zf2 47 _ _ _ _ _ st).trans ((Dyn.Ent.nilCell (P:=Tryz.prog) (k:=3) (by kernel_rfl) _ _).trans (Dyn.Ent.nilCell (P:=Tryz.prog) (k:=0) (by kernel_rfl) _ _)))
 ·obtain⟨i1,i2⟩:=yix s k a ha
  have hw:W ((k:Int)+1)=((k+1:Nat):Int):=Wn1 hk (by omega)
  have z1:szP 32 a.1.n:=zgn (by decide) (by omega)
  have z2:szP 1 a.1.m:=zgn (by decide) (by omega)
  unfold wdT wdL
  refine⟨λ_=>⟨⟨⟨by omega,by omega⟩,trivial⟩,λh1=>.inl ⟨rfl,?_⟩,λh1=>⟨λh2=>.inr ⟨rfl,?_⟩,λh2=>⟨λh3=>⟨λh4=>.inr ⟨rfl,?_⟩,λh4=>⟨⟨λi hi=>rfl,trivial⟩,λh5=>⟨⟨z1,trivial⟩,⟨⟨by omega,by omega,by omega,by omega⟩,trivial⟩,.inl ⟨rfl,?_⟩⟩,λh5=>⟨⟨z1,trivial⟩,⟨⟨by omega,by omega,by omega,by omega⟩,trivial⟩,.inl ⟨rfl,?_⟩⟩⟩⟩,
   λh3=>⟨λh4=>⟨λh5=>.inr ⟨rfl,?_⟩,λh5=>.inl ⟨rfl,?_⟩⟩,λh4=>⟨λh5=>⟨λh6=>.inr ⟨rfl,?_⟩,λh6=>⟨λh7=>.inr ⟨rfl,?_⟩,λh7=>⟨⟨z2,trivial⟩,.inl ⟨rfl,?_⟩⟩⟩⟩,λh5=>⟨λh6=>.inr ⟨rfl,?_⟩,λh6=>⟨⟨z2,trivial⟩,.inl ⟨rfl,?_⟩⟩⟩⟩⟩⟩⟩⟩,λhf=>?_⟩
  ·have e:wdG s k a=(true,a.1,0,0):=by unfold wdG;dsimp only;rw[h1];rfl
   rw[e,hw];exact⟨rfl,Dyn.Fits.refl _⟩
  ·have e:wdG s k a=(false,a.1,(k:Int),2):=by unfold wdG;dsimp only;rw[h1,h2];rfl
   rw[e];exact⟨rfl,Dyn.Fits.refl _⟩
  ·have e:wdG s k a=(false,a.1,(k:Int),2):=by unfold wdG;dsimp only;rw[h1,h2,h3,h4];rfl
   rw[e];exact⟨rfl,Dyn.Fits.refl _⟩
  ·have e:wdG s k a=(true,zxh a.1,0,0):=by unfold wdG;dsimp only;rw[h1,h2,h3,h4];rfl
   have e2:(zxh a.1).inn=W (a.1.inn+1):=by unfold zxh;dsimp only;rw[h5];rfl
   rw[e]
   unfold wdX wdS
   rw[e2,hw]
   exact⟨rfl,rfl,Dyn.HeLe.refl _,zvg (λi hi=>by show _=wdC (putN _ _ _ _);rw[zu2 hi]) (by show _=wdC (putN _ _ _ _);rw[zni]),Dyn.HeLe.refl _,trivial⟩
  ·have e:wdG s k a=(true,zxh a.1,0,0):=by unfold wdG;dsimp only;rw[h1,h2,h3,h4];rfl
   have e2:(zxh a.1).inn=a.1.inn:=by unfold zxh;dsimp only;rw[h5];rfl
   rw[e]
   unfold wdX wdS
   rw[e2,hw]
   exact⟨rfl,rfl,Dyn.HeLe.refl _,zvg (λi hi=>by show _=wdC (putN _ _ _ _);rw[zu2 hi]) (by show _=wdC (putN _ _ _ _);rw[zni]),Dyn.HeLe.refl _,trivial⟩
  ·have e:wdG s k a=(false,a.1,(k:Int),2):=by unfold wdG;dsimp only;rw[h1,h2,h3,h4,h5];rfl
   rw[e];exact⟨rfl,Dyn.Fits.refl _⟩
  ·have e:wdG s k a=(true,⟨a.1.n,a.1.w,a.1.m,a.1.b,a.1.at_,!a.1.grp,0⟩,0,0):=by unfold wdG;dsimp only;rw[h1,h2,h3,h4,h5];rfl
   rw[e,hw];exact⟨rfl,Dyn.Fits.refl _⟩
  ·have e:wdG s k a=(false,a.1,(k:Int),6):=by unfold wdG;dsimp only;rw[h1,h2,h3,h4,h5,h6];rfl
   rw[e];exact⟨rfl,Dyn.Fits.refl _⟩
  ·have e:wdG s k a=(false,a.1,(k:Int),6):=by unfold wdG;dsimp only;rw[h1,h2,h3,h4,h5,h6,h7];rfl
   rw[e];exact⟨rfl,Dyn.Fits.refl _⟩
  ·have e:wdG s k a=(true,z49 ⟨a.1.n,a.1.w,a.1.m,a.1.b,(k:Int),a.1.grp,a.1.inn⟩ (Dyn.zhb s k),0,0):=by unfold wdG;dsimp only;rw[h1,h2,h3,h4,h5,h6,h7];rfl
   rw[e]
   unfold wdA wdS
   rw[hw]
   exact⟨rfl,rfl,Dyn.HeLe.refl _,Dyn.HeLe.refl _,zvg (λi hi=>by show _=byC (putN _ _ _) _;unfold byC;rw[zu2 hi]) (by show _=byC (putN _ _ _) _;unfold byC;rw[zni]),trivial⟩
  ·have e:wdG s k a=(false,a.1,(k:Int),6):=by unfold wdG;dsimp only;rw[h1,h2,h3,h4,h5,h6];rfl
   rw[e];exact⟨rfl,Dyn.Fits.refl _⟩
  ·have e:wdG s k a=(true,z49 a.1 (Dyn.zhb s k),0,0):=by unfold wdG;dsimp only;rw[h1,h2,h3,h4,h5,h6];rfl
   rw[e]
   unfold wdA wdS
   rw[hw]
   exact⟨rfl,rfl,Dyn.HeLe.refl _,Dyn.HeLe.refl _,zvg (λi hi=>by show _=byC (putN _ _ _) _;unfold byC;rw[zu2 hi]) (by show _=byC (putN _ _ _) _;unfold byC;rw[zni]),trivial⟩
  ·rw[decide_eq_false_iff_not]at hf;omega
 ·refine⟨λht=>?_,λ_=>⟨rfl,Dyn.Fits.refl _⟩⟩
  rw[decide_eq_true_eq]at ht;omega
def dvWd(n:Nat)(w:Nat->Wd):Dyn.DV:=.one (.row n λi=>wdC (w i))
def rvWd(r:Nat×(Nat->Wd)×Int×Int):Dyn.RV:=.tup [dvWd r.1 r.2.1,dvI r.2.2.1,dvI r.2.2.2]
def wdO(s:ByteArray):Dyn.RO:=
 .ite (decide ((s.size:Int)>1000000)) (.leaf (.tup [.one (.row 0 λ_=>[]),dvI 0,dvI 6])) (.side [wdS s rdO 0=wdS s rdO 0,(s.size:Int)<=1000000]
  (.ite (zj1 s).1 (.ite (bif decide (((zj1 s).2.1.m:Int)>0)then true else(zj1 s).2.1.grp) (.leaf (.tup [.one (.row 0 λ_=>[]),dvI s.size,dvI 2])) (.leaf (.tup [dvWd (zj1 s).2.1.n (zj1 s).2.1.w,dvI 0,dvI 0])))
   (.leaf (.tup [.one (.row 0 λ_=>[]),dvI (zj1 s).2.2.1,dvI (zj1 s).2.2.2]))))
theorem wd_O(s:ByteArray):(Dyn.dfun Tryz.prog tabW (wdLp s) 3 Tryz.f101 [.one (.p (.string s))]).ro Tryz.prog Tryz.f101.results=wdO s:=by kernel_rfl
theorem ydu(s:ByteArray):Dyn.zav Tryz.prog 101 [.one (.p (.string s))] (rvWd (z61 s)):=
 Dyn.zbs (lp:=wdLp s) (fuel:=3) z8n mo Tryz.func101 (by kernel_rfl) (c:=zbx Tryz.f101.body) (by kernel_rfl)
  (λw0=>by rw[z63];exact zaa (yk3 s w0) (zaa (λs o h=>by cases h) zao))
  (by kernel_rfl) (wd_O s) (by
   unfold z61
   refine⟨λh=>?_,λh=>⟨⟨rfl,by rw[decide_eq_false_iff_not]at h;omega,trivial⟩,λh2=>⟨λh3=>?_,λh3=>?_⟩,λh2=>?_⟩⟩
   ·rw[h];exact⟨⟨rfl,λi hi=>absurd hi (by omega)⟩,rfl,rfl,trivial⟩
   ·rw[h,h2,h3];exact⟨⟨rfl,λi hi=>absurd hi (by omega)⟩,rfl,rfl,trivial⟩
   ·rw[h,h2,h3];exact⟨Dyn.DVLe.refl _,rfl,rfl,trivial⟩
   ·rw[h,h2];exact⟨⟨rfl,λi hi=>absurd hi (by omega)⟩,rfl,rfl,trivial⟩)
def ynu(f:Func):Bool:=match f.body with
 |some _=>true
 |none=>false
def memN(n:Nat):List Nat->Bool
 |[]=>false
 |m::l=>bif Nat.beq m n then true else memN n l
noncomputable def fnsR(a b:Nat)(ex:List Nat):Nat->Option Func:=λn=>bif memN n ex then none else bif Nat.ble a n then bif Nat.ble n b then(Tryz.prog.funcs[n]?).filter ynu else none else none
def allR(q:Nat->Bool)(a:Nat):Nat->Bool
 |0=>true
 |n+1=>bif q (a+n)then allR q a n else false
theorem z1n{q:Nat->Bool}{a:Nat}:∀{n:Nat},allR q a n=true->∀k,a<=k->k<a+n->q k=true
 |0,_,k,h1,h2=>by omega
 |n+1,h,k,h1,h2=>by
  unfold allR at h
  cases e:q (a+n)with
  |false=>rw[e]at h;cases h
  |true=>
   rw[e]at h
   rcases Nat.lt_or_ge k (a+n)with h3|h3
   ·exact z1n h k h1 h3
   ·obtain rfl:k=a+n:=by omega
    exact e
noncomputable def notGo(n:Nat):Bool:=match Tryz.prog.funcs[n]? with
 |some f=>!(f.name=="runtime.NumGoroutine")
 |none=>true
theorem zou{a b:Nat}{ex:List Nat}(h:allR notGo a (b+1-a)=true):Dyn.z6x Tryz.prog (fnsR a b ex) (λ_=>Dyn.noLp) where
 fn K f hf:=by
  unfold fnsR at hf
  cases e0:memN K ex with
  |true=>rw[e0]at hf;cases hf
  |false=>
  rw[e0]at hf
  cases e:Nat.ble a K with
  |false=>rw[e]at hf;cases hf
  |true=>
   cases e2:Nat.ble K b with
   |false=>rw[e,e2]at hf;cases hf
   |true=>
    rw[e,e2]at hf
    have hf:Tryz.prog.funcs[K]? = some f:=(Option.filter_eq_some_iff.1 hf).1
    refine⟨hf,?_⟩
    have h1:=Nat.le_of_ble_eq_true e
    have h2:=Nat.le_of_ble_eq_true e2
    have:=z1n h K h1 (by omega)
    unfold notGo at this
    rw[hf]at this
    simpa using this
 lp K f c h h2 w0:=Dyn.zcl _ w0
 ex K f h hb xs hp st hst:=by cases hst
def tbIx:List zay:=[(166,λargs=>match args with
 |[.string s,.int .u8 c]=>some (.int .i64 (firstIdx s c.toNat.toUInt8),[])
 |_=>none)]
theorem ixb_ok(s:ByteArray)(c:Int):za2 Tryz.prog 166 [.string s,.int .u8 c] (.int .i64 (firstIdx s c.toNat.toUInt8)):=λw=>by
 have h:=run_callFunc_extern (P:=Tryz.prog) (f:=166) (fn:=Tryz.f166) (e:=Extern.BytealgIndexByte.indexByte) Tryz.func166 (by kernel_rfl) (by kernel_rfl) (by kernel_rfl) (by kernel_rfl) #[.string s,.int .u8 c] w
 rw[run_indexByte_string]at h
 rw[show[Value.string s,Value.int .u8 c].toArray = #[.string s,.int .u8 c]from rfl,h]
 exact⟨rfl,Below.refl _ _⟩
theorem tbIx_e:zae Tryz.prog (166,λargs=>match args with
 |[.string s,.int .u8 c]=>some (.int .i64 (firstIdx s c.toNat.toUInt8),[])
 |_=>none):=λargs v ps h _=>by
 dsimp only at h
 split at h
 ·cases h;exact ixb_ok _ _
 ·cases h
theorem ylr:∀e∈tbIx,zae Tryz.prog e:=List.forall_mem_cons.2 ⟨tbIx_e,λ_ h=>by cases h⟩
def eqB:List UInt8->List UInt8->Bool
 |[],[]=>true
 |x::l,y::m=>bif Nat.beq x.toNat y.toNat then eqB l m else false
 |_,_=>false
theorem ykq:∀{l m:List UInt8},eqB l m=true->l=m
 |[],[],_=>rfl
 |[],_::_,h=>by cases h
 |_::_,[],h=>by cases h
 |x::l,y::m,h=>by
  unfold eqB at h
  cases e:Nat.beq x.toNat y.toNat with
  |false=>rw[e]at h;cases h
  |true=>
   rw[e]at h
   rw[UInt8.toNat_inj.1 (Nat.eq_of_beq_eq_true e),ykq h]
def yhr:Value->Value->Bool
 |.int k i,.int k' j=>bif decide (k=k')then decide (i=j)else false
 |.bool a,.bool b=>a==b
 |.string a,.string b=>eqB a.data.toList b.data.toList
 |_,_=>false
theorem zvw{x y:Value}(h:yhr x y=true):x=y:=by
 unfold yhr at h
 split at h
 ·rename_i k i k' j
  cases e:decide (k=k')with
  |false=>rw[e]at h;cases h
  |true=>
   rw[e]at h
   rw[of_decide_eq_true e,of_decide_eq_true h]
 ·rw[eq_of_beq h]
 ·rename_i a b
  have:=ykq h
  cases a;cases b
  congr 1
  congr 1
  exact Array.toList_inj.1 this
 ·cases h
def eqL(q:Dyn.DC->Dyn.DC->Bool):List Dyn.DC->List Dyn.DC->Bool
 |[],[]=>true
 |x::l,y::m=>bif q x y then eqL q l m else false
 |_,_=>false
theorem yb2{q:Dyn.DC->Dyn.DC->Bool}(hq:∀x y,q x y=true->DLe x y):∀{l m:List Dyn.DC},eqL q l m=true->DLL l m
 |[],[],_=>trivial
 |[],_::_,h=>by cases h
 |_::_,[],h=>by cases h
 |x::l,y::m,h=>by
  unfold eqL at h
  cases e:q x y with
  |false=>rw[e]at h;cases h
  |true=>rw[e]at h;exact⟨hq _ _ e,yb2 hq h⟩
def eqDC:Nat->Dyn.DC->Dyn.DC->Bool
 |_,.p x,.p y=>yhr x y
 |k+1,.row n f,.row m g=>bif Nat.beq n m then allR (λi=>eqL (eqDC k) (f i) (g i)) 0 n else false
 |_,_,_=>false
theorem z00:∀(k:Nat) (x y:Dyn.DC),eqDC k x y=true->DLe x y
 |0,.p x,.p y,h=>by rw[zvw (x:=x) (y:=y) (by simpa [eqDC]using h)];exact .refl _
 |k+1,.p x,.p y,h=>by rw[zvw (x:=x) (y:=y) (by simpa [eqDC]using h)];exact .refl _
 |k+1,.row n f,.row m g,h=>by
  have h2:(bif Nat.beq n m then allR (λi=>eqL (eqDC k) (f i) (g i)) 0 n else false)=true:=by simpa [eqDC]using h
  clear h
  cases e2:Nat.beq n m with
  |false=>rw[e2]at h2;cases h2
  |true=>
   rw[e2]at h2
   have:=Nat.eq_of_beq_eq_true e2
   subst this
   exact DLe.rowL λi hi=>yb2 (z00 k) (z1n h2 i (Nat.zero_le _) (by omega))
 |0,.row _ _,_,h=>by simp[eqDC]at h
 |0,.p _,.row _ _,h=>by simp[eqDC]at h
 |0,.p _,.ptr _,h=>by simp[eqDC]at h
 |0,.ptr _,_,h=>by simp[eqDC]at h
 |_+1,.ptr _,_,h=>by simp[eqDC]at h
 |_+1,.p _,.row _ _,h=>by simp[eqDC]at h
 |_+1,.p _,.ptr _,h=>by simp[eqDC]at h
 |_+1,.row _ _,.p _,h=>by simp[eqDC]at h
 |_+1,.row _ _,.ptr _,h=>by simp[eqDC]at h
def eqDV:Dyn.DV->Dyn.DV->Bool
 |.one c,.one d=>eqDC 9 c d
 |.agg l,.agg m=>eqL (eqDC 9) l m
 |_,_=>false
theorem z0z{x y:Dyn.DV}(h:eqDV x y=true):DVd x y:=by
 unfold eqDV at h
 split at h
 ·exact z00 _ _ _ h
 ·exact yb2 (z00 _) h
 ·cases h
def z0y:List Dyn.DV->List Dyn.DV->Bool
 |[],[]=>true
 |x::l,y::m=>bif eqDV x y then z0y l m else false
 |_,_=>false
theorem zsa{w:World}{F:Nat->Prop}:∀{l m:List Dyn.DV},z0y l m=true->∀{us:List Value},Dyn.zfn w F l us->Dyn.zfn w F m us
 |[],[],_,_,k=>k
 |[],_::_,h,_,_=>by cases h
 |_::_,[],h,_,_=>by cases h
 |x::l,y::m,h,us,k=>by
  unfold z0y at h
  cases e:eqDV x y with
  |false=>rw[e]at h;cases h
  |true=>
   rw[e]at h
   cases us with
   |nil=>exact k
   |cons u us=>exact⟨DVd.den (z0z e) k.1,zsa h k.2⟩
def eqRV:Dyn.RV->Dyn.RV->Bool
 |.val x,.val y=>eqDV x y
 |.tup l,.tup m=>z0y l m
 |_,_=>false
theorem zvx{w:World}{F:Nat->Prop}{x y:Dyn.RV}(h:eqRV x y=true){u:Value}(k:Dyn.DenR w F x u):Dyn.DenR w F y u:=by
 unfold eqRV at h
 split at h
 ·exact DVd.den (z0z h) k
 ·obtain⟨us,e,k⟩:=k
  exact⟨us,e,zsa h k⟩
 ·cases h
def roEq:Dyn.RO->Dyn.RV->Bool
 |.leaf r0,r=>eqRV r0 r
 |_,_=>false
theorem znu{l:List Dyn.DV}:∀{P:Program} {K:Nat} {r r':Dyn.RV},eqRV r r'=true->Dyn.zav P K l r->Dyn.zav P K l r':=λ{P K r r'} hr h w F us hF hd=>by
 have k:=h w F us hF hd
 split at k
 ·exact⟨zvx hr k.1,k.2⟩
 ·obtain⟨rfl,k⟩:=k
  refine⟨rfl,k.mono ?_⟩
  rintro e w2 ⟨u,rfl,h1,h2⟩
  exact⟨u,rfl,zvx hr h1,h2⟩
 ·exact k.elim
theorem za1{P:Program}{X:Dyn.Tabs}(ht:Dyn.zal P X)(hm:P.follows .mixedOrders=true){K:Nat}{fn:Func}(hf:P.funcs[K]? = some fn)(hn:(fn.name=="runtime.NumGoroutine")=false){c:Code}(hb:fn.body=some c){fuel:Nat}{args:List Dyn.DV}{r:Dyn.RV}
  (hp:Dyn.pOks args=true) (h:roEq ((Dyn.dfun P X Dyn.noLp fuel fn args).ro P fn.results) r=true):Dyn.zav P K args r:=by
 cases e:(Dyn.dfun P X Dyn.noLp fuel fn args).ro P fn.results with
 |leaf r0=>
  rw[e]at h
  exact znu h (Dyn.zbs (fuel:=fuel) ht hm hf hn hb (λw0=>Dyn.zcl _ w0) hp e (Dyn.RVLe.refl r0))
 |ite b x y=>rw[e]at h;cases h
 |side ps x=>rw[e]at h;cases h
 |fail=>rw[e]at h;cases h
def enCs:List (List Dyn.DV×Dyn.RV)->List Dyn.DV->Option (Dyn.RV×List Prop)
 |[],_=>none
 |(a,r)::l,b=>bif z0y b a then some (r,[])else enCs l b
theorem zdm{P:Program}{K:Nat}:∀{l:List (List Dyn.DV×Dyn.RV)},(∀p∈l,Dyn.zav P K p.1 p.2)->Dyn.zbu P (K,enCs l)
 |[],_=>λ_ _ _ hr _=>by cases hr
 |(a,r0)::l,h=>λargs r ps hr hp=>by
  obtain⟨h1,h2⟩:=List.forall_mem_cons.1 h
  have hr:(bif z0y args a then some (r0,[])else enCs l args)=some (r,ps):=hr
  cases e:z0y args a with
  |true=>
   rw[e]at hr
   cases hr
   intro w F us hF hd
   exact h1 w F us hF (zsa e hd)
  |false=>rw[e]at hr;exact zdm h2 args r ps hr hp
def strV(s:String):Dyn.DV:=.one (.p (.string s.toUTF8))
end Go.Proofs.YtmekpbopoknigaaGreatDoor

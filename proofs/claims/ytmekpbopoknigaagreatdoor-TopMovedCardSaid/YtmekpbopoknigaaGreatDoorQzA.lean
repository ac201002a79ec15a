import Derived.Test.YtmekpbopoknigaaGreatDoorQR
import Derived.Test.YtmekpbopoknigaaGreatDoorQY
import Derived.Test.YtmekpbopoknigaaGreatDoorQN
import Derived.Test.YtmekpbopoknigaaGreatDoorQQ
import Derived.Test.YtmekpbopoknigaaGreatDoorQP
import Derived.Test.YtmekpbopoknigaaGreatDoorQZ
namespace Go.Proofs.YtmekpbopoknigaaGreatDoor
open Go Go.RowKit Sym
set_option maxRecDepth 100000
structure Iso(T:P2->P2):Prop where
 d:∀p q,zak (T p) (T q)=zak p q
 s:∀p q,same (T p) (T q)↔same p q
structure IsoB(T:P2->P2)(b b':B4):Prop where
 n:∀q,zc6 b' (T q)=zc6 b q
 m:∀q,zeb b' (T q)=zeb b q
 f:∀f:P2->Bool,all4 f b'=all4 (λq=>f (T q)) b
theorem z47{T:P2->P2}{b b':B4}(h:Iso T)(hb:IsoB T b b')(hc:∀o a b,zad (T o) (T a) (T b)=zad o a b)(c a e:P2)(r:Int):zjt b' (T c) (T a) (T e) r=zjt b c a e r:=by
 unfold zjt liIn z52
 simp only[h.d,hc,h.s,hb.n,hb.m,hb.f]
theorem z46{T:P2->P2}{b b':B4}(h:Iso T)(hb:IsoB T b b')(hc:∀o a b,zad (T o) (T a) (T b)=zad o b a){c a e:P2}{r:Int}(ok:zak a c=zak e c):zjt b' (T c) (T e) (T a) r=zjt b c a e r:=by
 unfold zjt liIn z52
 simp only[h.d,hc,h.s,hb.n,hb.m,hb.f]
 rw[show decide (same e a)=decide (same a e)from decide_eq_decide.2 ⟨λk=>by unfold same at *;omega,λk=>by unfold same at *;omega⟩,←ok,Bool.or_comm (all4 (λq=>decide (zad c q e>=0)) b),Bool.and_comm (all4 (λq=>decide (zad c q e>=0)) b),Bool.or_comm (all4 (λq=>decide (zad c q e<0)) b),Bool.and_comm (all4 (λq=>decide (zad c q e<0)) b)]
 simp only[or_comm (a:=zeb b e<=r*r),or_comm (a:=zc6 b e<=r*r)]
def trP(u:P2)(p:P2):P2:=⟨p.x+u.x,p.y+u.y⟩
def roP(p:P2):P2:=⟨-p.y,p.x⟩
def mjP(p:P2):P2:=⟨-p.x,p.y⟩
def trB(u:P2)(b:B4):B4:=⟨b.x0+u.x,b.y0+u.y,b.x1+u.x,b.y1+u.y⟩
def roB(b:B4):B4:=⟨-b.y1,b.x0,-b.y0,b.x1⟩
def mjB(b:B4):B4:=⟨-b.x1,b.y0,-b.x0,b.y1⟩
theorem yk9(u:P2):Iso (trP u):=⟨λp q=>by unfold zak trP;dsimp only;grind,λp q=>by unfold same trP;dsimp only;omega⟩
theorem yml:Iso roP:=⟨λp q=>by unfold zak roP;dsimp only;grind,λp q=>by unfold same roP;dsimp only;omega⟩
theorem ynf:Iso mjP:=⟨λp q=>by unfold zak mjP;dsimp only;grind,λp q=>by unfold same mjP;dsimp only;omega⟩
theorem z7j(u o a b:P2):zad (trP u o) (trP u a) (trP u b)=zad o a b:=by unfold zad trP;dsimp only;grind
theorem z9r(o a b:P2):zad (roP o) (roP a) (roP b)=zad o a b:=by unfold zad roP;dsimp only;grind
theorem yaz(o a b:P2):zad (mjP o) (mjP a) (mjP b)=zad o b a:=by unfold zad mjP;dsimp only;grind
theorem ykm(v u lo hi:Int):gapI (v+u) (lo+u) (hi+u)=gapI v lo hi:=by unfold gapI;split<;>split<;>(try split)<;>(try split)<;>omega
theorem ybn{v lo hi:Int}(h:lo<=hi):gapI (-v) (-hi) (-lo)=gapI v lo hi:=by unfold gapI;split<;>split<;>(try split)<;>(try split)<;>omega
theorem z2m(v u lo hi:Int):zcz (v+u) (lo+u) (hi+u)=zcz v lo hi:=by unfold zcz;omega
theorem zxe(v lo hi:Int):zcz (-v) (-hi) (-lo)=zcz v lo hi:=by unfold zcz;omega
theorem yla(u:P2)(b:B4):IsoB (trP u) b (trB u b):=
 ⟨λq=>by unfold zc6 trP trB;dsimp only;rw[ykm,ykm],λq=>by unfold zeb trP trB;dsimp only;rw[z2m,z2m],λf=>rfl⟩
theorem ymm{b:B4}(h:b.y0<=b.y1):IsoB roP b (roB b):=
 ⟨λq=>by unfold zc6 roP roB;dsimp only;rw[ybn h,Int.add_comm],λq=>by unfold zeb roP roB;dsimp only;rw[zxe,Int.add_comm],λf=>by
  unfold all4 roB roP;dsimp only
  cases f ⟨-b.y0,b.x0⟩<;>cases f ⟨-b.y0,b.x1⟩<;>cases f ⟨-b.y1,b.x0⟩<;>cases f ⟨-b.y1,b.x1⟩<;>rfl⟩
theorem yng{b:B4}(h:b.x0<=b.x1):IsoB mjP b (mjB b):=
 ⟨λq=>by unfold zc6 mjP mjB;dsimp only;rw[ybn h],λq=>by unfold zeb mjP mjB;dsimp only;rw[zxe],λf=>by
  unfold all4 mjB mjP;dsimp only
  cases f ⟨-b.x0,b.y0⟩<;>cases f ⟨-b.x0,b.y1⟩<;>cases f ⟨-b.x1,b.y0⟩<;>cases f ⟨-b.x1,b.y1⟩<;>rfl⟩
end Go.Proofs.YtmekpbopoknigaaGreatDoor
namespace Go.Proofs.YtmekpbopoknigaaGreatDoor
open Go Go.RowKit Sym
def accN(op:Bool->Bool->Bool)(f:Nat->Bool):Nat->Bool
 |0=>false
 |n+1=>op (accN op f n) (f n)
theorem zu5(f:Nat->Bool):∀n,parN f n=accN xor f n
 |0=>rfl
 |n+1=>by simp only[parN,accN,zu5 f n]
theorem zwe(f:Nat->Bool):∀n,anyN f n=accN or f n
 |0=>rfl
 |n+1=>by simp only[anyN,accN,zwe f n]
theorem ziw{op:Bool->Bool->Bool}{f g:Nat->Bool}:∀{n:Nat},(∀k,k<n->f k=g k)->accN op f n=accN op g n
 |0,_=>rfl
 |n+1,h=>by simp only[accN];rw[ziw λk hk=>h k (by omega),h n (by omega)]
def accC(op:Bool->Bool->Bool)(f:P2->P2->Bool)(l:Ctr):Bool:=accN op (λi=>accN op (zg6 l f i) (l.m i)) l.n
theorem zp8(p:P2)(l:Ctr):oddI p l=accC xor (zat p) l:=by
 unfold oddI accC
 rw[zu5]
 exact ziw λi _=>zu5 _ _
theorem zez(b:B4)(l:Ctr):zco b l=accC or (zca b) l:=by
 unfold zco accC
 rw[zwe]
 exact ziw λi _=>zwe _ _
def mapC(T:P2->P2)(l:Ctr):Ctr:=⟨l.n,l.m,λi k=>T (l.p i k)⟩
theorem zht{op:Bool->Bool->Bool}{f g:P2->P2->Bool}{T:P2->P2}{l:Ctr}(h:∀i,i<l.n->∀k,k<l.m i->∀j,j<l.m i->f (T (l.p i k)) (T (l.p i j))=g (l.p i k) (l.p i j)):accC op f (mapC T l)=accC op g l:=
 ziw λi hi=>ziw λk hk=>h i hi k hk _ (zxs hk)
def tmP(u p:P2):P2:=⟨p.x+u.x,p.y+u.y⟩
def tmvB(u:P2)(b:B4):B4:=⟨b.x0+u.x,b.y0+u.y,b.x1+u.x,b.y1+u.y⟩
def tqP(p:P2):P2:=⟨-p.y,p.x⟩
def tqB(b:B4):B4:=⟨-b.y1,b.x0,-b.y0,b.x1⟩
def txP(p:P2):P2:=⟨-p.x,p.y⟩
def txB(b:B4):B4:=⟨-b.x1,b.y0,-b.x0,b.y1⟩
theorem z34(u a e c:P2):zad (tmP u a) (tmP u e) (tmP u c)=zad a e c:=by unfold zad tmP;dsimp only;grind
theorem zjh(a e c:P2):zad (tqP a) (tqP e) (tqP c)=zad a e c:=by unfold zad tqP;dsimp only;grind
theorem z33(a e c:P2):zad (txP a) (txP e) (txP c) = -(zad a e c):=by unfold zad txP;dsimp only;grind
theorem ydc(f:P2->Bool)(u:P2)(b:B4):all4 f (tmvB u b)=all4 (λc=>f (tmP u c)) b:=rfl
theorem ydb(f:P2->Bool)(b:B4):all4 f (tqB b)=all4 (λc=>f (tqP c)) b:=by
 unfold all4 tqB tqP
 dsimp only
 cases f ⟨-b.y1,b.x0⟩<;>cases f ⟨-b.y0,b.x0⟩<;>cases f ⟨-b.y1,b.x1⟩<;>cases f ⟨-b.y0,b.x1⟩<;>rfl
theorem yda(f:P2->Bool)(b:B4):all4 f (txB b)=all4 (λc=>f (txP c)) b:=by
 unfold all4 txB txP
 dsimp only
 cases f ⟨-b.x1,b.y0⟩<;>cases f ⟨-b.x0,b.y0⟩<;>cases f ⟨-b.x1,b.y1⟩<;>cases f ⟨-b.x0,b.y1⟩<;>rfl
theorem sep_tm(u:P2)(b:B4)(a e:P2):sepI (tmvB u b) (tmP u a) (tmP u e)=sepI b a e:=by
 unfold sepI tmvB tmP;dsimp only
 rw[Bool.eq_iff_iff];simp only[Bool.or_eq_true,decide_eq_true_eq];omega
theorem sep_tq(b:B4)(a e:P2):sepI (tqB b) (tqP a) (tqP e)=sepI b a e:=by
 unfold sepI tqB tqP;dsimp only
 rw[Bool.eq_iff_iff];simp only[Bool.or_eq_true,decide_eq_true_eq];omega
theorem sep_tx(b:B4)(a e:P2):sepI (txB b) (txP a) (txP e)=sepI b a e:=by
 unfold sepI txB txP;dsimp only
 rw[Bool.eq_iff_iff];simp only[Bool.or_eq_true,decide_eq_true_eq];omega
theorem z3d(u:P2)(b:B4)(a e:P2):zca (tmvB u b) (tmP u a) (tmP u e)=zca b a e:=by
 unfold zca
 rw[sep_tm,ydc,ydc]
 simp only[z34]
theorem z3c(b:B4)(a e:P2):zca (tqB b) (tqP a) (tqP e)=zca b a e:=by
 unfold zca
 rw[sep_tq,ydb,ydb]
 simp only[zjh]
theorem z3b(b:B4)(a e:P2):zca (txB b) (txP a) (txP e)=zca b a e:=by
 have e1:∀x:Int,decide (-x>0)=decide (x<0):=λx=>decide_eq_decide.2 (by omega)
 have e2:∀x:Int,decide (-x<0)=decide (x>0):=λx=>decide_eq_decide.2 (by omega)
 unfold zca
 rw[sep_tx,yda,yda]
 simp only[z33,e1,e2]
 cases sepI b a e<;>cases all4 (λc=>decide (zad a e c>0)) b<;>cases all4 (λc=>decide (zad a e c<0)) b<;>rfl
theorem z1y(u:P2)(b:B4)(l:Ctr):zco (tmvB u b) (mapC (tmP u) l)=zco b l:=by
 rw[zez,zez];exact zht λi _ k _ j _=>z3d u b _ _
theorem z1x(b:B4)(l:Ctr):zco (tqB b) (mapC tqP l)=zco b l:=by
 rw[zez,zez];exact zht λi _ k _ j _=>z3c b _ _
theorem z1w(b:B4)(l:Ctr):zco (txB b) (mapC txP l)=zco b l:=by
 rw[zez,zez];exact zht λi _ k _ j _=>z3b b _ _
theorem z6e(u p a e:P2):zat (tmP u p) (tmP u a) (tmP u e)=zat p a e:=by
 unfold zat
 rw[z34]
 have h1:∀x y z:Int,decide (x+z>y+z)=decide (x>y):=λx y z=>decide_eq_decide.2 (by omega)
 unfold tmP
 dsimp only
 rw[h1,h1]
 by_cases k:e.y>a.y
 ·rw[if_pos k,if_pos (show e.y+u.y>a.y+u.y by omega)]
 ·rw[if_neg k,if_neg (show ¬e.y+u.y>a.y+u.y by omega)]
theorem yka(u p:P2)(l:Ctr):oddI (tmP u p) (mapC (tmP u) l)=oddI p l:=by
 rw[zp8,zp8];exact zht λi _ k _ j _=>z6e u p _ _
theorem zks{p a e:P2}(h:a.y<=e.y):zat p a e=decide (a.y<=p.y/\p.y<e.y/\0<zad a e p):=by
 rw[Bool.eq_iff_iff,decide_eq_true_eq];exact ziq h
theorem yah{p a e:P2}(ho:onI p a e=false)(h1:a.y<=p.y)(h2:p.y<=e.y)(h:a.y<e.y):zad a e p≠0:=by
 intro h0
 unfold onI at ho
 rw[decide_eq_false_iff_not]at ho
 apply ho
 have key:(e.x-a.x)*(p.y-a.y)=(p.x-a.x)*(e.y-a.y):=by unfold zad at h0;grind
 have d0:0<=p.y-a.y:=by omega
 have d1:0<=e.y-p.y:=by omega
 have d2:0<e.y-a.y:=by omega
 have key2:(e.x-a.x)*(e.y-p.y)=(e.x-p.x)*(e.y-a.y):=by grind
 refine⟨?_,?_,by omega,by omega,h0⟩
 ·rcases Int.le_total a.x e.x with g|g
  ·have:=Int.mul_nonneg (show 0<=e.x-a.x by omega) d0
   rcases(show a.x<=p.x\/p.x<a.x by omega)with k|k
   ·omega
   ·have:=Int.mul_pos (show 0<a.x-p.x by omega) d2
    have e:(p.x-a.x)*(e.y-a.y) = -((a.x-p.x)*(e.y-a.y)):=by grind
    omega
  ·have:=Int.mul_nonneg (show 0<=a.x-e.x by omega) d1
   have e1:(e.x-a.x)*(e.y-p.y) = -((a.x-e.x)*(e.y-p.y)):=by grind
   rcases(show e.x<=p.x\/p.x<e.x by omega)with k|k
   ·omega
   ·have:=Int.mul_pos (show 0<e.x-p.x by omega) d2
    omega
 ·rcases Int.le_total a.x e.x with g|g
  ·have:=Int.mul_nonneg (show 0<=e.x-a.x by omega) d1
   rcases(show p.x<=e.x\/e.x<p.x by omega)with k|k
   ·omega
   ·have:=Int.mul_pos (show 0<p.x-e.x by omega) d2
    have e:(e.x-p.x)*(e.y-a.y) = -((p.x-e.x)*(e.y-a.y)):=by grind
    omega
  ·have:=Int.mul_nonneg (show 0<=a.x-e.x by omega) d0
   have e1:(e.x-a.x)*(p.y-a.y) = -((a.x-e.x)*(p.y-a.y)):=by grind
   rcases(show p.x<=a.x\/a.x<p.x by omega)with k|k
   ·omega
   ·have:=Int.mul_pos (show 0<p.x-a.x by omega) d2
    omega
theorem z0e(p a e:P2):onI p e a=onI p a e:=by
 have h:zad e a p = -(zad a e p):=by unfold zad;grind
 unfold onI
 rw[h,decide_eq_decide];omega
theorem z5v{p a e:P2}(ho:onI p a e=false):xor (zat p a e) (zat (txP p) (txP a) (txP e))=xor (decide (a.y>p.y)) (decide (e.y>p.y)):=by
 have one:∀{a e:P2},a.y<=e.y->onI p a e=false->xor (zat p a e) (zat (txP p) (txP a) (txP e))=xor (decide (a.y>p.y)) (decide (e.y>p.y)):=by
  intro a e h ho
  rw[zks h,zks (p:=txP p) (a:=txP a) (e:=txP e) h,z33,zs3,zs3,decide_eq_decide]
  show _↔_
  unfold txP
  dsimp only
  by_cases k:a.y<=p.y/\p.y<e.y
  ·have:=yah ho k.1 (by omega) (by omega)
   omega
  ·omega
 rcases Int.le_total a.y e.y with h|h
 ·exact one h ho
 ·rw[←z0e]at ho
  rw[←zc4 p,←zc4 (txP p),one h ho,Bool.xor_comm]
theorem ydy{p a e:P2}(ho:onI p a e=false):xor (zat p a e) (zat (tqP p) (tqP a) (tqP e))=xor (decide (a.x>p.x/\a.y<=p.y)) (decide (e.x>p.x/\e.y<=p.y)):=by
 have one:∀{a e:P2},a.y<=e.y->onI p a e=false->xor (zat p a e) (zat (tqP p) (tqP a) (tqP e))=xor (decide (a.x>p.x/\a.y<=p.y)) (decide (e.x>p.x/\e.y<=p.y)):=by
  intro a e h ho
  have G:zad a e p=(e.x-a.x)*(p.y-a.y)-(e.y-a.y)*(p.x-a.x):=rfl
  have G2:zad a e p=(e.x-a.x)*(p.y-e.y)-(e.y-a.y)*(p.x-e.x):=by unfold zad;grind
  have y0:p.y<a.y\/(a.y<=p.y/\p.y<e.y)\/e.y<=p.y:=by omega
  rw[zks h]
  rcases Int.le_total a.x e.x with g|g
  ·rw[zks (p:=tqP p) (a:=tqP a) (e:=tqP e) g,zjh]
   unfold tqP
   dsimp only
   rw[zs3,zs3,decide_eq_decide]
   have t1:=Int.mul_nonneg (show 0<=e.x-a.x by omega) (show 0<=e.y-a.y by omega)
   rcases(show p.x<a.x\/(a.x<=p.x/\p.x<e.x)\/e.x<=p.x by omega)with k|k|k
   ·
    by_cases z:a.y<=p.y/\p.y<e.y
    ·have:=zvf (a:=a) (e:=e) (p:=p) z.1 (by omega) (by omega) k (by omega);omega
    ·omega
   ·rcases y0 with z|z|z
    ·
     have u1:=Int.mul_nonneg (show 0<=e.x-a.x by omega) (show 0<=a.y-p.y by omega)
     have u2:=Int.mul_nonneg (show 0<=e.y-a.y by omega) (show 0<=p.x-a.x by omega)
     have u3:(e.x-a.x)*(p.y-a.y) = -((e.x-a.x)*(a.y-p.y)):=by grind
     omega
    ·have:=yah ho z.1 (by omega) (by omega);omega
    ·
     have u1:=Int.mul_nonneg (show 0<=e.x-a.x by omega) (show 0<=p.y-e.y by omega)
     have u2:=Int.mul_nonneg (show 0<=e.y-a.y by omega) (show 0<=e.x-p.x by omega)
     have u3:(e.y-a.y)*(p.x-e.x) = -((e.y-a.y)*(e.x-p.x)):=by grind
     have nz:zad a e p≠0:=by
      intro h0
      have f:=yah (p:=tqP p) (a:=tqP a) (e:=tqP e) (by
       unfold onI at ho ⊢
       rw[decide_eq_false_iff_not]at ho ⊢
       rw[zjh]
       unfold tqP
       dsimp only
       omega) (show a.x<=p.x by omega) (show p.x<=e.x by omega) (show a.x<e.x by omega)
      rw[zjh]at f;exact f h0
     omega
   ·by_cases z:a.y<=p.y/\p.y<e.y
    ·have:=zp5 (a:=a) (e:=e) (p:=p) z.1 (by omega) (by omega) k;omega
    ·omega
  ·rw[←zc4 (tqP p),zks (p:=tqP p) (a:=tqP e) (e:=tqP a) g,zjh]
   have s:zad e a p = -(zad a e p):=by unfold zad;grind
   rw[s]
   unfold tqP
   dsimp only
   rw[zs3,zs3,decide_eq_decide]
   rcases(show p.x<e.x\/(e.x<=p.x/\p.x<a.x)\/a.x<=p.x by omega)with k|k|k
   ·by_cases z:a.y<=p.y/\p.y<e.y
    ·have:=zvf (a:=a) (e:=e) (p:=p) z.1 (by omega) (by omega) (by omega) k;omega
    ·omega
   ·rcases y0 with z|z|z
    ·have u1:=Int.mul_nonneg (show 0<=a.x-e.x by omega) (show 0<=a.y-p.y by omega)
     have u2:=Int.mul_nonneg (show 0<=e.y-a.y by omega) (show 0<=a.x-p.x by omega)
     have u3:(e.x-a.x)*(p.y-a.y)=(a.x-e.x)*(a.y-p.y):=by grind
     have u4:(e.y-a.y)*(p.x-a.x) = -((e.y-a.y)*(a.x-p.x)):=by grind
     omega
    ·have:=yah ho z.1 (by omega) (by omega);omega
    ·have u1:=Int.mul_nonneg (show 0<=a.x-e.x by omega) (show 0<=p.y-e.y by omega)
     have u2:=Int.mul_nonneg (show 0<=e.y-a.y by omega) (show 0<=p.x-e.x by omega)
     have u3:(e.x-a.x)*(p.y-e.y) = -((a.x-e.x)*(p.y-e.y)):=by grind
     have nz:zad a e p≠0:=by
      intro h0
      have f:=yah (p:=tqP p) (a:=tqP e) (e:=tqP a) (by
       rw[z0e]
       unfold onI at ho ⊢
       rw[decide_eq_false_iff_not]at ho ⊢
       rw[zjh]
       unfold tqP
       dsimp only
       omega) (show e.x<=p.x by omega) (show p.x<=a.x by omega) (show e.x<a.x by omega)
      rw[zjh,s]at f;omega
     omega
   ·by_cases z:a.y<=p.y/\p.y<e.y
    ·have:=zp5 (a:=a) (e:=e) (p:=p) z.1 (by omega) k (by omega);omega
    ·omega
 rcases Int.le_total a.y e.y with h|h
 ·exact one h ho
 ·rw[←z0e]at ho
  rw[←zc4 p,←zc4 (tqP p),one h ho,Bool.xor_comm]
theorem z9b{l:Ctr}{p:P2}(h:zco (zh7 p) l=false):∀i,i<l.n->∀k,k<l.m i->onI p (l.p i k) (l.p i (nxt (l.m i) k))=false:=λi hi k hk=>by
 rw[←ztb];exact zm6 h i hi k hk
theorem yak{l l':Ctr}{p p':P2}(R:P2->Bool)(T:P2->P2)(hl:l'=mapC T l)(h:zco (zh7 p) l=false)(hr:∀a e,onI p a e=false->xor (zat p a e) (zat p' (T a) (T e))=xor (R a) (R e)):oddI p' l'=oddI p l:=by
 subst hl
 have e:xor (oddI p l) (oddI p' (mapC T l))=false:=by
  have h2:oddI p' (mapC T l)=parN (λi=>parN (λk=>zat p' (T (l.p i k)) (T (l.p i (nxt (l.m i) k)))) (l.m i)) l.n:=rfl
  rw[h2]
  unfold oddI
  rw[znk,zcw (g:=λ_=>false) λi hi=>?_,zia]
  rw[znk,zcw (f:=λk=>xor (zg6 l (zat p) i k) (zat p' (T (l.p i k)) (T (l.p i (nxt (l.m i) k))))) (g:=λk=>xor (R (l.p i k)) (R (l.p i (nxt (l.m i) k)))) λk hk=>hr _ _ (z9b h i hi k hk)]
  exact zxn (λk=>R (l.p i k)) (l.m i)
 revert e
 cases oddI p l<;>cases oddI p' (mapC T l)<;>simp
theorem yj8{l:Ctr}{p:P2}(h:zco (zh7 p) l=false):oddI (txP p) (mapC txP l)=oddI p l:=yak (λw=>decide (w.y>p.y)) txP rfl h λ_ _=>z5v
theorem yj9{l:Ctr}{p:P2}(h:zco (zh7 p) l=false):oddI (tqP p) (mapC tqP l)=oddI p l:=yak (λw=>decide (w.x>p.x/\w.y<=p.y)) tqP rfl h λ_ _=>ydy
def hasC(p:P2)(l:Ctr):Bool:=zco (zh7 p) l||oddI p l
def clsC(b:B4)(l:Ctr):Int:=if zco b l=true then 1 else if oddI ⟨b.x0,b.y0⟩ l=true then 2 else 0
theorem ynt(u p:P2)(l:Ctr):hasC (tmP u p) (mapC (tmP u) l)=hasC p l:=by
 unfold hasC
 rw[show zh7 (tmP u p)=tmvB u (zh7 p)from rfl,z1y,yka]
theorem yns(p:P2)(l:Ctr):hasC (tqP p) (mapC tqP l)=hasC p l:=by
 unfold hasC
 rw[show zh7 (tqP p)=tqB (zh7 p)from rfl,z1x]
 cases h:zco (zh7 p) l with
 |true=>rfl
 |false=>rw[yj9 h]
theorem ynr(p:P2)(l:Ctr):hasC (txP p) (mapC txP l)=hasC p l:=by
 unfold hasC
 rw[show zh7 (txP p)=txB (zh7 p)from rfl,z1w]
 cases h:zco (zh7 p) l with
 |true=>rfl
 |false=>rw[yj8 h]
theorem yot(u:P2)(b:B4)(l:Ctr):clsC (tmvB u b) (mapC (tmP u) l)=clsC b l:=by
 unfold clsC
 rw[z1y,show(⟨(tmvB u b).x0,(tmvB u b).y0⟩:P2)=tmP u ⟨b.x0,b.y0⟩from rfl,yka]
theorem yos{b:B4}(hx:b.x0<=b.x1)(hy:b.y0<=b.y1)(l:Ctr):clsC (tqB b) (mapC tqP l)=clsC b l:=by
 unfold clsC
 rw[z1x]
 cases h:zco b l with
 |true=>rfl
 |false=>
  have h1:hasI b ⟨b.x0,b.y1⟩:=⟨Int.le_refl _,hx,hy,Int.le_refl _⟩
  rw[show(⟨(tqB b).x0,(tqB b).y0⟩:P2)=tqP ⟨b.x0,b.y1⟩from rfl,yj9 (zs8 h h1),z0g h h1 (q:=⟨b.x0,b.y0⟩) ⟨Int.le_refl _,hx,Int.le_refl _,hy⟩]
theorem yor{b:B4}(hx:b.x0<=b.x1)(hy:b.y0<=b.y1)(l:Ctr):clsC (txB b) (mapC txP l)=clsC b l:=by
 unfold clsC
 rw[z1w]
 cases h:zco b l with
 |true=>rfl
 |false=>
  have h1:hasI b ⟨b.x1,b.y0⟩:=⟨hx,Int.le_refl _,Int.le_refl _,hy⟩
  rw[show(⟨(txB b).x0,(txB b).y0⟩:P2)=txP ⟨b.x1,b.y0⟩from rfl,yj8 (zs8 h h1),z0g h h1 (q:=⟨b.x0,b.y0⟩) ⟨Int.le_refl _,hx,Int.le_refl _,hy⟩]
theorem ycq{b:B4}{l:Ctr}(hb:BR b)(hx:b.x0<=b.x1)(hy:b.y0<=b.y1)(hl:PRC l):zch b l=clsC b l:=by
 have hC:hasI b ⟨b.x0,b.y0⟩:=⟨Int.le_refl _,hx,Int.le_refl _,hy⟩
 unfold zch clsC
 rw[zqt hb hx hy hl,z0h ⟨hb.x0,hb.y0⟩ hl,(zit b ⟨b.x0,b.y0⟩).2 hC]
 cases zco b l<;>cases oddI ⟨b.x0,b.y0⟩ l<;>rfl
end Go.Proofs.YtmekpbopoknigaaGreatDoor
namespace Go.Proofs.YtmekpbopoknigaaGreatDoor
open Go Go.RowKit Sym
set_option maxRecDepth 100000
structure Mv(T:P2->P2)(G:B4->B4)(m:Bool):Prop where
 i:Iso T
 dt:∀o a b,dotI (T o) (T a) (T b)=dotI o a b
 cr:∀o a b,zad (T o) (T a) (T b)=bif m then zad o b a else zad o a b
 me:∀b a e,zca (G b) (T a) (T e)=zca b a e
 ord:∀b:B4,b.x0<=b.x1->b.y0<=b.y1->(G b).x0<=(G b).x1/\(G b).y0<=(G b).y1
 bx:∀b:B4,b.x0<=b.x1->b.y0<=b.y1->IsoB T b (G b)
 hc:∀p l,hasC (T p) (mapC T l)=hasC p l
 cc:∀(b:B4) l,b.x0<=b.x1->b.y0<=b.y1->clsC (G b) (mapC T l)=clsC b l
theorem Mv.comp{T T':P2->P2}{G G':B4->B4}{m m':Bool}(h:Mv T G m)(k:Mv T' G' m'):Mv (λp=>T' (T p)) (λb=>G' (G b)) (m != m') where
 i:=⟨λp q=>by rw[k.i.d,h.i.d],λp q=>(k.i.s _ _).trans (h.i.s _ _)⟩
 dt:=λo a b=>by rw[k.dt,h.dt]
 cr:=λo a b=>by cases m<;>cases m'<;>rw[k.cr,h.cr]<;>simp only[cond_true,cond_false]<;>first|rfl|(rw[h.cr];rfl)
 me:=λb a e=>by rw[k.me,h.me]
 ord:=λb hx hy=>k.ord _ (h.ord b hx hy).1 (h.ord b hx hy).2
 bx:=λb hx hy=>by
  have a:=h.bx b hx hy
  have c:=k.bx (G b) (h.ord b hx hy).1 (h.ord b hx hy).2
  exact⟨λq=>by rw[c.n,a.n],λq=>by rw[c.m,a.m],λf=>by rw[c.f,a.f]⟩
 hc:=λp l=>(k.hc (T p) (mapC T l)).trans (h.hc p l)
 cc:=λb l hx hy=>(k.cc (G b) (mapC T l) (h.ord b hx hy).1 (h.ord b hx hy).2).trans (h.cc b l hx hy)
theorem mv_id:Mv (λp=>p) (λb=>b) false where
 i:=⟨λ_ _=>rfl,λ_ _=>Iff.rfl⟩
 dt:=λ_ _ _=>rfl
 cr:=λ_ _ _=>rfl
 me:=λ_ _ _=>rfl
 ord:=λ_ hx hy=>⟨hx,hy⟩
 bx:=λ_ _ _=>⟨λ_=>rfl,λ_=>rfl,λ_=>rfl⟩
 hc:=λ_ _=>rfl
 cc:=λ_ _ _ _=>rfl
theorem ygx(u:P2):Mv (trP u) (trB u) false where
 i:=yk9 u
 dt:=λo a b=>by unfold dotI trP;dsimp only;grind
 cr:=λo a b=>z7j u o a b
 me:=λb a e=>z3d u b a e
 ord:=λb hx hy=>⟨by show b.x0+u.x<=b.x1+u.x;omega,by show b.y0+u.y<=b.y1+u.y;omega⟩
 bx:=λb _ _=>yla u b
 hc:=λp l=>ynt u p l
 cc:=λb l _ _=>yot u b l
theorem z5t:Mv roP roB false where
 i:=yml
 dt:=λo a b=>by unfold dotI roP;dsimp only;grind
 cr:=λo a b=>z9r o a b
 me:=λb a e=>z3c b a e
 ord:=λb hx hy=>⟨by show -b.y1<=-b.y0;omega,hx⟩
 bx:=λb _ hy=>ymm hy
 hc:=λp l=>yns p l
 cc:=λb l hx hy=>yos hx hy l
theorem mv_mj:Mv mjP mjB true where
 i:=ynf
 dt:=λo a b=>by unfold dotI mjP;dsimp only;grind
 cr:=λo a b=>yaz o a b
 me:=λb a e=>z3b b a e
 ord:=λb hx hy=>⟨by show -b.x1<=-b.x0;omega,hy⟩
 bx:=λb hx _=>yng hx
 hc:=λp l=>ynr p l
 cc:=λb l hx hy=>yor hx hy l
def rtT(m:Bool)(k:Int)(u:P2)(p:P2):P2:=⟨(rt m k p).x+u.x,(rt m k p).y+u.y⟩
theorem ygy{T T':P2->P2}{G G':B4->B4}{m m':Bool}(h:Mv T G m)(e:T=T')(e':G=G')(e2:m=m'):Mv T' G' m':=by subst e;subst e';subst e2;exact h
theorem mv_rt(m:Bool){k:Int}(hk:Q4 k)(u:P2):Mv (rtT m k u) (rtB m k u) m:=by
 have h0:Mv (λp=>bif m then mjP p else p) (λb=>bif m then mjB b else b) m:=by
  cases m
  ·exact mv_id
  ·exact mv_mj
 rcases hk with rfl|rfl|rfl|rfl
 ·refine ygy (h0.comp (ygx u)) (funext λp=>?_) (funext λb=>?_) (by cases m<;>rfl)
  ·cases m<;>refine P2.ext' ?_ ?_<;>simp[rtT,rt,trP,mjP]
  ·cases m<;>refine B4x ?_ ?_ ?_ ?_<;>simp[rtB,trB,mjB]
 ·refine ygy ((h0.comp z5t).comp (ygx u)) (funext λp=>?_) (funext λb=>?_) (by cases m<;>rfl)
  ·cases m<;>refine P2.ext' ?_ ?_<;>simp[rtT,rt,trP,mjP,roP]
  ·cases m<;>refine B4x ?_ ?_ ?_ ?_<;>simp[rtB,trB,mjB,roB]
 ·refine ygy (((h0.comp z5t).comp z5t).comp (ygx u)) (funext λp=>?_) (funext λb=>?_) (by cases m<;>rfl)
  ·cases m<;>refine P2.ext' ?_ ?_<;>simp[rtT,rt,trP,mjP,roP]
  ·cases m<;>refine B4x ?_ ?_ ?_ ?_<;>simp[rtB,trB,mjB,roB]
 ·refine ygy ((((h0.comp z5t).comp z5t).comp z5t).comp (ygx u)) (funext λp=>?_) (funext λb=>?_) (by cases m<;>rfl)
  ·cases m<;>refine P2.ext' ?_ ?_<;>simp[rtT,rt,trP,mjP,roP]
  ·cases m<;>refine B4x ?_ ?_ ?_ ?_<;>simp[rtB,trB,mjB,roB]
theorem yce(o a b:P2):zad o b a = -zad o a b:=by unfold zad;grind
theorem zlj{T:P2->P2}{G:B4->B4}{m:Bool}(h:Mv T G m)(p a c:P2)(r:Int):clear (T p) (T a) (T c) r=clear p a c r:=by
 unfold clear
 rw[h.i.d,h.cr]
 cases m
 ·rfl
 ·show decide (zad a p c*zad a p c<=_)=_
  rw[yce a c p,Int.neg_mul_neg]
theorem yhc{T:P2->P2}{G:B4->B4}{m:Bool}(h:Mv T G m)(p a c:P2)(r:Int):zih (T p) (T a) (T c) r=zih p a c r:=by
 unfold zih
 rw[zlj h,h.dt,h.i.d,h.i.d,h.i.d]
theorem ypb{T:P2->P2}{b b':B4}(h:IsoB T b b')(f:P2->Bool):any4 f b'=any4 (λq=>f (T q)) b:=by
 have e:=h.f λq=>!(f q)
 rw[←zu9,←zu9]at e
 revert e
 cases any4 f b'<;>cases any4 (λq=>f (T q)) b<;>simp
theorem ya3{T:P2->P2}{G:B4->B4}{m:Bool}(h:Mv T G m){b:B4}(hx:b.x0<=b.x1)(hy:b.y0<=b.y1)(a c:P2)(r:Int):zrv (G b) (T a) (T c) r=zrv b a c r:=by
 have k:=h.bx b hx hy
 unfold zrv
 rw[k.f,ypb k,k.n,k.n,h.me]
 simp only[yhc h]
theorem yo2{T:P2->P2}{G:B4->B4}{m:Bool}(h:Mv T G m)(p a c:P2)(r:Int):barI (T p) (T a) (T c) r=barI p a c r:=by
 unfold barI
 rw[zlj h,h.dt,h.i.d,decide_eq_decide.2 (h.i.s a c)]
theorem zyr{p a c:P2}{r:Int}(h:clear p a c r=false):zad a c p≠0:=by
 intro e
 unfold clear at h
 rw[e]at h
 have k:=Int.mul_nonneg (zgp r) (zff a c)
 rw[decide_eq_false_iff_not]at h
 exact h (by simpa using k)
theorem yas{x:Int}(h:x≠0):decide (-x>0) = !(decide (x>0)):=by
 by_cases k:x>0
 ·rw[decide_eq_true k,decide_eq_false (show ¬-x>0 by omega)];rfl
 ·rw[decide_eq_false k,decide_eq_true (show -x>0 by omega)];rfl
theorem ynk{T:P2->P2}{G:B4->B4}{m:Bool}(h:Mv T G m)(a c:P2)(r:Int):(λq=>zlm (T a) (T c) r (T q))=(bif m then zgs a c r else zlm a c r)/\(λq=>zgs (T a) (T c) r (T q))=(bif m then zlm a c r else zgs a c r):=by
 cases m
 ·exact⟨funext λq=>by show zlm _ _ r _=zlm a c r q;unfold zlm;rw[zlj h,h.cr];rfl,funext λq=>by show zgs _ _ r _=zgs a c r q;unfold zgs;rw[zlj h,h.cr];rfl⟩
 ·refine⟨funext λq=>?_,funext λq=>?_⟩
  ·show zlm _ _ r _=zgs a c r q
   unfold zlm zgs;rw[zlj h,h.cr]
   show(!(clear q a c r)&&decide (zad a q c>0))=_
   rw[yce a c q]
   cases e:clear q a c r
   ·rw[yas (zyr e)]
   ·rfl
  ·show zgs _ _ r _=zlm a c r q
   unfold zlm zgs;rw[zlj h,h.cr]
   show(!(clear q a c r) && !(decide (zad a q c>0)))=_
   rw[yce a c q]
   cases e:clear q a c r
   ·rw[yas (zyr e)]
    cases decide (zad a c q>0)<;>rfl
   ·rfl
theorem yo3{T:P2->P2}{G:B4->B4}{m:Bool}(h:Mv T G m){b:B4}(hx:b.x0<=b.x1)(hy:b.y0<=b.y1)(a c:P2)(r:Int):yc3 (G b) (T a) (T c) r=yc3 b a c r:=by
 have k:=h.bx b hx hy
 have e:=ynk h a c r
 unfold yc3
 simp only[h.i.s]
 rw[k.f,k.f,k.f,k.f,k.f,e.1,e.2,h.i.d]
 simp only[yo2 h,h.dt]
 cases m
 ·rfl
 ·show(if _ then _ else if _ then _ else if(all4 (zlm a c r) b||all4 (zgs a c r) b||_||_)=true then _ else _)=_
  rw[Bool.or_comm (all4 (zlm a c r) b)]
theorem z9t{T:P2->P2}{G:B4->B4}{m:Bool}(h:Mv T G m){b:B4}(hx:b.x0<=b.x1)(hy:b.y0<=b.y1){c a e:P2}{r:Int}(ok:okI c a e):zjt (G b) (T c) (bif m then T e else T a) (bif m then T a else T e) r=zjt b c a e r:=by
 cases m
 ·exact z47 h.i (h.bx b hx hy) (λo a b=>h.cr o a b) c a e r
 ·exact z46 h.i (h.bx b hx hy) (λo a b=>h.cr o a b) ok.2
theorem z5x{T T':P2->P2}{l:Ctr}(h:∀i,i<l.n->∀k,k<l.m i->T (l.p i k)=T' (l.p i k))(b:B4):zco b (mapC T l)=zco b (mapC T' l):=by
 rw[zez,zez,zht (g:=λa e=>zca b (T' a) (T' e)) (T:=T) λi hi k hk j hj=>by rw[h i hi k hk,h i hi j hj]]
 exact(zht λi hi k hk j hj=>rfl).symm
theorem yg6{T T':P2->P2}{l:Ctr}(h:∀i,i<l.n->∀k,k<l.m i->T (l.p i k)=T' (l.p i k))(p:P2):oddI p (mapC T l)=oddI p (mapC T' l):=by
 rw[zp8,zp8,zht (g:=λa e=>zat p (T' a) (T' e)) (T:=T) λi hi k hk j hj=>by rw[h i hi k hk,h i hi j hj]]
 exact(zht λi hi k hk j hj=>rfl).symm
theorem ycr{T T':P2->P2}{l:Ctr}(h:∀i,i<l.n->∀k,k<l.m i->T (l.p i k)=T' (l.p i k))(b:B4):clsC b (mapC T l)=clsC b (mapC T' l):=by
 unfold clsC;rw[z5x h,yg6 h]
theorem zt7{α:Type}{f g:Nat->α->α}{a:α}:∀n,(∀i,i<n->∀x,f i x=g i x)->zax f a n=zax g a n
 |0,_=>rfl
 |n+1,h=>by
  show f n (zax f a n)=g n (zax g a n)
  rw[zt7 n λi hi=>h i (by omega),h n (by omega)]
def tT(t:Tn):P2->P2:=rtT (plX t) (plQ t) t.u
def tB(t:Tn):B4->B4:=rtB (plX t) (plQ t) t.u
theorem tMv(t:Tn):Mv (tT t) (tB t) (plX t):=mv_rt (plX t) (znj t) t.u
theorem zhu{t:Tn}(g:PB 400000000 t.u){p:P2}(h:PB 40 p):zan p t=tT t p:=zfa (zd8 h (by decide)) (zd8 g (by decide))
theorem tT_PB{t:Tn}(g:PB 400000000 t.u){p:P2}(h:PB 40 p):PB 400000040 (tT t p):=by
 rw[←zhu g h];exact zd8 (zfi h g (by decide) (by decide)) (by decide)
theorem PB_R'{B:Int}(b:B<=536870912){p:P2}(h:PB B p):PR p:=zrl (zso b h)
theorem yoh{p q:P2}(hp:PB 40 p)(hq:PB 40 q):zak p q<=4000000000000000000:=by have:=yog hp hq;omega
structure B40(b:B4):Prop where
 x0 : -400<=b.x0
 x:b.x0<=b.x1
 x1:b.x1<=400
 y0 : -400<=b.y0
 y:b.y0<=b.y1
 y1:b.y1<=400
theorem B40.R{b:B4}(h:B40 b):BR b:=by
 obtain⟨h1,h2,h3,h4,h5,h6⟩:=h
 exact⟨⟨by omega,by omega⟩,⟨by omega,by omega⟩,⟨by omega,by omega⟩,⟨by omega,by omega⟩⟩
theorem tB_R{t:Tn}(g:PB 400000000 t.u){b:B4}(h:B40 b):BR (tB t b):=by
 obtain⟨h1,h2,h3,h4,h5,h6⟩:=h
 obtain⟨⟨g1,g2⟩,g3,g4⟩:=g
 unfold tB rtB
 rcases znj t with e|e|e|e<;>rw[e]<;>cases plX t<;>refine⟨⟨?_,?_⟩,⟨?_,?_⟩,⟨?_,?_⟩,⟨?_,?_⟩⟩<;>simp<;>omega
theorem ync{b:B4}(h:B40 b){c:P2}(hc:PB 40 c):zeb b c<=4000000000000000000:=by
 obtain⟨h1,h2,h3,h4,h5,h6⟩:=h
 obtain⟨⟨g1,g2⟩,g3,g4⟩:=hc
 exact yg1 (by omega) h2 (by omega) (by omega) h5 (by omega) ⟨⟨by omega,by omega⟩,by omega,by omega⟩
theorem z43{T:P2->P2}{G:B4->B4}{m:Bool}(h:Mv T G m){b:B4}(hb:BR b)(hx:b.x0<=b.x1)(hy:b.y0<=b.y1)(hb':BR (G b)){c a e:P2}{r:Int}(hT:∀q,q=c\/q=a\/q=e->PR q/\PR (T q))(ok:okI c a e)(h1:1<=r)(h2:r<=536870912)(d1:zeb b c<=4000000000000000000)(d2:zak a c<=4000000000000000000) :
  zda (G b) (T c) (bif m then T e else T a) (bif m then T a else T e) r=zda b c a e r:=by
 have Tc:=hT c (.inl rfl)
 have Ta:=hT a (.inr (.inl rfl))
 have Te:=hT e (.inr (.inr rfl))
 have o:=h.ord b hx hy
 have k:=h.bx b hx hy
 have okT:okI (T c) (T a) (T e):=by unfold okI at *;rw[h.i.d,h.i.d];exact ok
 rw[zhl hb Tc.1 Ta.1 Te.1 ok hx hy h1 (by omega) d1 d2,←z9t h hx hy ok]
 cases m
 ·exact zhl hb' Tc.2 Ta.2 Te.2 okT o.1 o.2 h1 (by omega) (by rw[k.m];exact d1) (by show zak (T a) (T c)<=_;rw[h.i.d];exact d2)
 ·exact zhl hb' Tc.2 Te.2 Ta.2 (z22 okT) o.1 o.2 h1 (by omega) (by rw[k.m];exact d1) (by show zak (T e) (T c)<=_;rw[h.i.d,←ok.2];exact d2)
theorem z6m{t:Tn}(g:PB 400000000 t.u){b:B4}(hb:B40 b):∀(s:Shp) (d:Int),Fine (PB 40) s d->zf7 (zga s t) (tB t b)=zf7 s b:=by
 have M:=tMv t
 have R:∀{q},PB 40 q->PR q:=λh=>PB_R' (by decide) h
 have R':∀{q},PB 40 q->PR (tT t q):=λh=>PB_R' (by decide) (tT_PB g h)
 have o:=M.ord b hb.x hb.y
 have k:=M.bx b hb.x hb.y
 have B:=hb.R
 have B':=tB_R g hb
 intro s
 induction s with
 |nil=>intro d h;exact h.elim
 |mk k' a b' c r l n add sub ih=>
  intro d h
  rcases h with⟨rfl,rfl,rfl,rfl,rfl,ha,hr⟩|⟨rfl,rfl,rfl,rfl,ha,hb',hr⟩|⟨rfl,rfl,rfl,rfl,ha,hb',hr,hn⟩|⟨rfl,rfl,rfl,ha,hb',hc,hr,ho⟩|⟨rfl,rfl,rfl,rfl,rfl,rfl,hc⟩|⟨rfl,rfl,rfl,rfl,rfl,rfl,h5,hm,hs⟩
  ·have w:=zj5 hr
   show zcr (tB t b) (zan a t) r=zcr b a r
   rw[zhu g ha,zf6 B (R ha) hb.x hb.y w.1 (by omega),zf6 B' (R' ha) o.1 o.2 w.1 (by omega),k.n,k.m]
  ·have w:=zj5 hr
   show zd2 (tB t b) (zan a t) (zan b' t) r=zd2 b a b' r
   rw[zhu g ha,zhu g hb',zkm B (R ha) (R hb') hb.x hb.y w.1 (by omega),zkm B' (R' ha) (R' hb') o.1 o.2 w.1 (by omega),ya3 M hb.x hb.y]
  ·have w:=zj5 hr
   show zfr (tB t b) (zan a t) (zan b' t) r=zfr b a b' r
   rw[zhu g ha,zhu g hb',zsm B (R ha) (R hb') hb.x hb.y (by omega),zsm B' (R' ha) (R' hb') o.1 o.2 (by omega),yo3 M hb.x hb.y]
  ·have w:=zj5 hr
   show zda (tB t b) (zan c t) (bif plX t then zan b' t else zan a t) (bif plX t then zan a t else zan b' t) r=zda b c a b' r
   rw[zhu g ha,zhu g hb',zhu g hc]
   exact z43 M B hb.x hb.y B' (λq hq=>by rcases hq with rfl|rfl|rfl<;>exact⟨R (by assumption),R' (by assumption)⟩) ho w.1 w.2 (ync hb hc) (yoh ha hc)
  ·show zch (tB t b) (mapC (λq=>zan q t) l)=zch b l
   have e:∀i,i<l.n->∀k,k<l.m i->zan (l.p i k) t=tT t (l.p i k):=λi hi k hk=>zhu g ((hc.2 i hi).2 k hk)
   rw[ycq B hb.x hb.y ⟨λi hi k hk=>R ((hc.2 i hi).2 k hk)⟩,ycq B' o.1 o.2 ⟨λi hi k hk=>by show PR (zan (l.p i k) t);rw[e i hi k hk];exact R' ((hc.2 i hi).2 k hk)⟩,ycr (T':=tT t) e,M.cc b l hb.x hb.y]
  ·show zax (λi acc=>zek acc (zf7 (zga (sub i) t) (tB t b)) (add i)) 0 n=zax (λi acc=>zek acc (zf7 (sub i) b) (add i)) 0 n
   exact zt7 n λi hi x=>by rw[ih i (d+1) (hs i hi)]
theorem yh8{P:P2->Prop}{t:Tn}:∀(s:Shp) (d:Int),Fine P s d->cntS (zga s t)=cntS s:=by
 intro s
 induction s with
 |nil=>intro d h;exact h.elim
 |mk k a b' c r l n add sub ih=>
  intro d h
  rcases h with⟨rfl,rfl,rfl,rfl,rfl,ha,hr⟩|⟨rfl,rfl,rfl,rfl,ha,hb,hr⟩|⟨rfl,rfl,rfl,rfl,ha,hb,hr,hn⟩|⟨rfl,rfl,rfl,ha,hb,hc,hr,ho⟩|⟨rfl,rfl,rfl,rfl,rfl,rfl,hc⟩|⟨rfl,rfl,rfl,rfl,rfl,rfl,h5,hm,hs⟩
  ·rfl
  ·rfl
  ·rfl
  ·rfl
  ·rfl
  ·show sumC (λi=>1+cntS (zga (sub i) t)) n=sumC (λi=>1+cntS (sub i)) n
   exact zn9 λi hi=>by rw[ih i (d+1) (hs i hi)]
theorem yh9{P:P2->Prop}:∀(s:Shp) (d:Int),Fine P s d->0<=d->1+(cntS s:Int)<=Nd d:=by
 intro s
 induction s with
 |nil=>intro d h;exact h.elim
 |mk k a b c r l n add sub ih=>
  intro d h h0
  have nd:=zuk d
  have one:n=0->1+(cntS (.mk k a b c r l n add sub):Int)<=Nd d:=λe=>by subst e;show 1+((0:Nat):Int)<=Nd d;omega
  rcases h with⟨_,_,_,_,e,_⟩|⟨_,_,_,e,_⟩|⟨_,_,_,e,_⟩|⟨_,_,e,_⟩|⟨_,_,_,_,_,e,_⟩|⟨rfl,rfl,rfl,rfl,rfl,rfl,h5,hm,hs⟩
  ·exact one e
  ·exact one e
  ·exact one e
  ·exact one e
  ·exact one e
  ·have st:=ydi h0 h5 (show 0<=(n:Int)by omega) (by omega)
   have nn:=zuk (d+1)
   have key:∀m:Nat,m<=n->(sumC (λi=>1+cntS (sub i)) m:Int)<=(m:Int)*Nd (d+1):=by
    intro m
    induction m with
    |zero=>intro _;show((0:Nat):Int)<=((0:Nat):Int)*Nd (d+1);omega
    |succ m ihm=>
     intro hm
     have a:=ihm (by omega)
     have q:=ih m (d+1) (hs m (by omega)) (by omega)
     have a2:((m+1:Nat):Int)*Nd (d+1)=(m:Int)*Nd (d+1)+Nd (d+1):=by rw[show((m+1:Nat):Int)=(m:Int)+1 by omega,Int.add_mul,Int.one_mul]
     show((sumC (λi=>1+cntS (sub i)) m+(1+cntS (sub m)):Nat):Int)<=_
     omega
   have:=key n (Nat.le_refl n)
   show 1+(sumC (λi=>1+cntS (sub i)) n:Int)<=Nd d
   omega
structure yir(s:Shp):Prop where
 rch:(zdf s).2=false->∀b,Fits b->zbf s b=0
 near:hbF s=false->∀b,Fits b->zo3 (zdf s).1 b=true->∀q,Sb q b->Fits q->zbf s q=0
theorem z3p{n:Nat}{add:Nat->Bool}{sub:Nat->Shp}(h:∀i,i<n->yir (sub i)):GoodN (zeq n add sub):=⟨λi hi=>(h i hi).rch,λi hi=>(h i hi).near⟩
theorem zua{B:Int}(hB:B<=FF){s:Shp}{d:Int}(f:Fine (PB B) s d)(ok:okS s=true):yir s:=by
 have eC:∀b,zbf s b=zf7 s b:=λb=>by unfold zbf;rw[ok];rfl
 have eB:zdf s=bndF s:=by unfold zdf;rw[ok];rfl
 refine⟨λh b hb=>?_,λhh b hb ha q hs hq=>?_⟩
 ·rw[eB]at h
  rw[eC]
  exact ygt hB hb s d f h
 ·rw[eB]at ha
  rw[eC]
  exact z3s hB hq s d f hh λh2=>Off.box hs (zy9 ((z3v hB s d f).2 h2) hb ha)
structure TamO(s:Shp):Prop where
 B:ShB s
 c:cntS s<=100000000
 g:yir s
 f:Fine (PB 40) s 2
theorem tamO(s:Shp)(h:ShB s):TamO (zl4 s true 2):=by
 have f:Fine (PB 40) (zl4 s true 2) 2:=zwr true s 2 h (by decide) (by decide)
 have n:=yh9 _ 2 f (by decide)
 have nd:=zuk 2
 have ok:okS (zl4 s true 2)=true:=by
  have e:=yfg true s h
  rwa [yag]at e
 exact⟨fine_B _ 2 f (by decide),by omega,zua (by decide) f ok,f⟩
theorem ymr{v:Vw}(h:VwG v)(hx : -29<=v.x/\v.x<=29)(hy : -29<=v.y/\v.y<=29)(hp:v.p<=32){i:Nat}(hi:i<pxN v):(-29<=(pxI v i).x0/\(pxI v i).x1<=285)/\-29<=(pxI v i).y0/\(pxI v i).y1<=285:=by
 have k:=ygh h hi
 obtain⟨a1,a2,a3⟩:=zyo h k.1
 obtain⟨b1,b2⟩:=ya4 h k.2
 have p1:=h.p1
 unfold pxI pixB
 dsimp only
 omega
theorem cn_rt0(C:B4->Int)(G:B4->B4)(b:B4):cnN (λq=>C (G q)) 0 b=cnN C 0 (G b):=rfl
theorem cn_rt1(C:B4->Int)(m:Bool){k:Int}(u:P2)(hk:Q4 k){b:B4}(h:Dv 1 b)(h':Dv 1 (rtB m k u b)):cnN C 1 (rtB m k u b)=cnN (λq=>C (rtB m k u q)) 1 b:=by
 obtain⟨mx,my,⟨x1,x2⟩,⟨y1,y2⟩,e0,e1,e2,e3⟩:=Dv.half (d:=0) h
 obtain⟨nx,ny,⟨a1,a2⟩,⟨b1,b2⟩,f0,f1,f2,f3⟩:=Dv.half (d:=0) h'
 have key:add4 (λi=>cnN C 0 (spB (rtB m k u b) i))=add4 (λi=>cnN (λq=>C (rtB m k u q)) 0 (spB b i)):=by
  simp only[cn_rt0,add4]
  rw[e0,e1,e2,show spB b 3=_ from e3 0,f0,f1,f2,show spB (rtB m k u b) 3=_ from f3 0]
  clear e0 e1 e2 e3 f0 f1 f2 f3 h h'
  unfold rtB at *
  dsimp only at *
  rcases hk with rfl|rfl|rfl|rfl<;>cases m<;>simp at a2 b2 ⊢<;>
  ·first
   |(obtain rfl:nx=mx+u.x:=by omega
     obtain rfl:ny=my+u.y:=by omega
     refine⟨?_,?_⟩<;>omega)
   |(obtain rfl:nx = -mx+u.x:=by omega
     obtain rfl:ny=my+u.y:=by omega
     refine⟨?_,?_⟩<;>omega)
   |(obtain rfl:nx=mx+u.x:=by omega
     obtain rfl:ny = -my+u.y:=by omega
     refine⟨?_,?_⟩<;>omega)
   |(obtain rfl:nx = -mx+u.x:=by omega
     obtain rfl:ny = -my+u.y:=by omega
     refine⟨?_,?_⟩<;>omega)
   |(obtain rfl:nx=my+u.x:=by omega
     obtain rfl:ny=mx+u.y:=by omega
     refine⟨?_,?_⟩<;>omega)
   |(obtain rfl:nx = -my+u.x:=by omega
     obtain rfl:ny=mx+u.y:=by omega
     refine⟨?_,?_⟩<;>omega)
   |(obtain rfl:nx=my+u.x:=by omega
     obtain rfl:ny = -mx+u.y:=by omega
     refine⟨?_,?_⟩<;>omega)
   |(obtain rfl:nx = -my+u.x:=by omega
     obtain rfl:ny = -mx+u.y:=by omega
     refine⟨?_,?_⟩<;>omega)
 show(bif C (rtB m k u b)==0 then(0,0)else bif C (rtB m k u b)==2 then(zci 1,zci 1)else add4 λi=>cnN C 0 (spB (rtB m k u b) i))=(bif C (rtB m k u b)==0 then(0,0)else bif C (rtB m k u b)==2 then(zci 1,zci 1)else add4 λi=>cnN (λq=>C (rtB m k u q)) 0 (spB b i))
 rw[key]
theorem yoq{C C':B4->Int}{t:Tn}{d:Nat}(hd:d<=1){b:B4}(h:Dv d b)(h':Dv d (tB t b))(hc:∀q,Sb q b->Fits q->C' (tB t q)=C q):cnN C' d (tB t b)=cnN C d b:=by
 have e:cnN C' d (tB t b)=cnN (λq=>C' (tB t q)) d b:=by
  rcases(show d=0\/d=1 by omega)with rfl|rfl
  ·rfl
  ·exact cn_rt1 C' _ _ (znj t) h h'
 rw[e]
 exact zqj d b h hc
def qx(x y p cx cy:Int):B4:=⟨x+cx*p,y+cy*p,x+cx*p+p,y+cy*p+p⟩
def mvX(m:Bool)(w cx:Int):Int:=bif m then w-1-cx else cx
def mvC(m:Bool)(k w cx cy:Int):Int:=bif k==1 then w-1-cy else bif k==2 then w-1-mvX m w cx else bif k==3 then cy else mvX m w cx
def mvL(m:Bool)(k w cx cy:Int):Int:=bif k==1 then mvX m w cx else bif k==2 then w-1-cy else bif k==3 then w-1-mvX m w cx else cy
theorem mv_in{m:Bool}{k w cx cy:Int}(hx:0<=cx/\cx<w)(hy:0<=cy/\cy<w):(0<=mvC m k w cx cy/\mvC m k w cx cy<w)/\0<=mvL m k w cx cy/\mvL m k w cx cy<w:=by
 unfold mvC mvL mvX
 cases k==1<;>cases k==2<;>cases k==3<;>cases m<;>simp<;>omega
theorem yfz(w cx p:Int):(w-1-cx)*p=w*p-p-cx*p:=by rw[Int.sub_mul,Int.sub_mul,Int.one_mul]
theorem ymo(m:Bool){k:Int}(hk:Q4 k)(u:P2)(x y p w cx cy:Int) :
  rtB m k u (qx x y p cx cy)=qx (rtB m k u ⟨x,y,x+w*p,y+w*p⟩).x0 (rtB m k u ⟨x,y,x+w*p,y+w*p⟩).y0 p (mvC m k w cx cy) (mvL m k w cx cy):=by
 unfold rtB qx mvC mvL mvX
 rcases hk with rfl|rfl|rfl|rfl<;>cases m<;>refine B4x ?_ ?_ ?_ ?_<;>simp[yfz]<;>omega
theorem yg5(m:Bool){k:Int}(hk:Q4 k)(u:P2)(b:B4):rtT m k ⟨2*u.x,2*u.y⟩ ⟨b.x0+b.x1,b.y0+b.y1⟩=⟨(rtB m k u b).x0+(rtB m k u b).x1,(rtB m k u b).y0+(rtB m k u b).y1⟩:=by
 unfold rtT rtB rt
 rcases hk with rfl|rfl|rfl|rfl<;>cases m<;>simp<;>omega
theorem ya0{c p:Int}(hc:0<=c)(hp:1<=p):((2*c+1)*p).tdiv (2*p)=c:=by
 have h0:0<=(2*c+1)*p:=Int.mul_nonneg (by omega) (by omega)
 rw[Int.tdiv_eq_ediv_of_nonneg h0]
 have e:(2*c+1)*p=p+c*(2*p):=by rw[Int.add_mul,Int.one_mul,Int.mul_comm 2 c,Int.mul_assoc];omega
 rw[e,Int.add_mul_ediv_right _ _ (by omega),Int.ediv_eq_zero_of_lt (by omega) (by omega)]
 omega
theorem yg8(m:Bool){k:Int}(hk:Q4 k)(u:P2){x y s:Int}(hs:0<=s):imin (rtT m k u ⟨x,y⟩).x (rtT m k u ⟨x+s,y+s⟩).x=(rtB m k u ⟨x,y,x+s,y+s⟩).x0/\imin (rtT m k u ⟨x,y⟩).y (rtT m k u ⟨x+s,y+s⟩).y=(rtB m k u ⟨x,y,x+s,y+s⟩).y0:=by
 unfold rtT rtB rt imin
 rcases hk with rfl|rfl|rfl|rfl<;>cases m<;>refine⟨?_,?_⟩<;>simp<;>omega
theorem okE_d{P:P2->Prop}(hP:∀p,P p->zd0 p=true){x:Sh}{d:Int}(h:Fine P (ofSh x) d)(h0:0<=d):okE x=true:=by
 have n:=zuk d
 exact(zt9 hP (ofSh x) d 0 1000 h h0 (by decide) h0 (by omega) (by decide)).1
theorem move_d{B C:Int}{x:Sh}{t:Tn}{d:Int}(h:Fine (PB B) (ofSh x) d)(h0:0<=d)(g:PB C t.u)(b:B<=536870912)(c:B+C<=536870912)(c':C<=1000000000000):znl x t=true/\z0j x t=toSh (zga (ofSh x) t)/\Fine (PB (B+C)) (zga (ofSh x) t) d/\okE (toSh (zga (ofSh x) t))=true/\okE x=true:=by
 have f:=z7e g (by omega) c' (ofSh x) d h
 have e1:okE x=true:=okE_d (λp hp=>zso b hp) h h0
 have e2:okE (toSh (zga (ofSh x) t))=true:=okE_d (λp hp=>zso c hp) (by rw[za7];exact f) h0
 have e3:zhe x t=toSh (zga (ofSh x) t):=rfl
 refine⟨?_,?_,f,e2,e1⟩
 ·unfold znl;rw[e1,e3,e2];rfl
 ·unfold z0j;rw[e1,e3,e2];rfl
theorem zm4{σ:Shp}(h:TamO σ){u:Tn}(hu:PB 100000000 u.u):znl (toSh σ) u=true/\z0j (toSh σ) u=toSh (zga σ u)/\(ShB (zga σ u)/\cntS (zga σ u)<=100000000)/\yir (zga σ u)/\∀q,B40 q->zbf (zga σ u) (tB u q)=zbf σ q:=by
 have f':Fine (PB 40) (ofSh (toSh σ)) 2:=by rw[za7];exact h.f
 have k:=move_d (x:=toSh σ) f' (by decide) hu (by decide) (by decide) (by decide)
 rw[za7]at k
 obtain⟨k1,k2,k3,k4,k5⟩:=k
 have o1:okS (zga σ u)=true:=by rwa [yag]at k4
 have o2:okS σ=true:=by rwa [yag]at k5
 refine⟨k1,k2,⟨z7g σ h.B u,by rw[yh8 σ 2 h.f];exact h.c⟩,zua (by decide) k3 o1,λq hq=>?_⟩
 unfold zbf
 rw[o1,o2]
 exact z6m (zd8 hu (by decide)) hq σ 2 h.f
theorem Wi2{x:Int}(h : -4000000000000000000<=x)(k:x<=4000000000000000000):W x=x:=W_id (by omega) (by omega)
structure VwS(v:Vw):Prop where
 g:VwG v
 hw:v.h=v.w
 x : -29<=v.x/\v.x<=29
 y : -29<=v.y/\v.y<=29
 p:v.p<=32
theorem VwS.wp{v:Vw}(h:VwS v):1<=v.w*v.p/\v.w*v.p<=256:=by
 have p1:=h.g.p1;have w1:=h.g.w1;have w2:=h.g.w2;have hp:=h.p
 have a1:=zmf (a:=v.w) (b:=v.p) (n:=8) (by omega) w2 (by omega)
 have a2:=Int.mul_le_mul (a:=1) (b:=1) (c:=v.w) (d:=v.p) w1 p1 (by omega) (by omega)
 omega
theorem ykh{v:Vw}(h:VwS v){u:Tn}(hu:PB 100000000 u.u):moW v u=⟨(tB u ⟨v.x,v.y,v.x+v.w*v.p,v.y+v.w*v.p⟩).x0,(tB u ⟨v.x,v.y,v.x+v.w*v.p,v.y+v.w*v.p⟩).y0,v.p,v.w,v.h,v.d⟩:=by
 obtain⟨w1,w2⟩:=h.wp
 have hx:=h.x;have hy:=h.y
 have e1:W (v.w*v.p)=v.w*v.p:=Wi2 (by omega) (by omega)
 have e2:W (v.x+v.w*v.p)=v.x+v.w*v.p:=Wi2 (by omega) (by omega)
 have e3:W (v.y+v.w*v.p)=v.y+v.w*v.p:=Wi2 (by omega) (by omega)
 have t1:=zfa (p:=⟨v.x,v.y⟩) (t:=u) ⟨⟨by dsimp only;omega,by dsimp only;omega⟩,by dsimp only;omega,by dsimp only;omega⟩ (zd8 hu (by decide))
 have t2:=zfa (p:=⟨v.x+v.w*v.p,v.y+v.w*v.p⟩) (t:=u) ⟨⟨by dsimp only;omega,by dsimp only;omega⟩,by dsimp only;omega,by dsimp only;omega⟩ (zd8 hu (by decide))
 have lo:=yg8 (plX u) (znj u) u.u (x:=v.x) (y:=v.y) (s:=v.w*v.p) (by omega)
 unfold moW
 rw[e1,e2,e3,t1,t2]
 unfold rtT at lo
 rw[lo.1,lo.2]
 rfl
theorem ynd{v:Vw}(h:VwS v){u:Tn}(hu:PB 100000000 u.u):VwG (moW v u):=by
 obtain⟨w1,w2⟩:=h.wp
 have hx:=h.x;have hy:=h.y
 obtain⟨⟨u1,u2⟩,u3,u4⟩:=hu
 have key:(-200000000<=(tB u ⟨v.x,v.y,v.x+v.w*v.p,v.y+v.w*v.p⟩).x0/\(tB u ⟨v.x,v.y,v.x+v.w*v.p,v.y+v.w*v.p⟩).x0<=200000000)/\-200000000<=(tB u ⟨v.x,v.y,v.x+v.w*v.p,v.y+v.w*v.p⟩).y0/\(tB u ⟨v.x,v.y,v.x+v.w*v.p,v.y+v.w*v.p⟩).y0<=200000000:=by
  unfold tB rtB
  rcases znj u with e|e|e|e<;>rw[e]<;>cases plX u<;>simp<;>omega
 rw[ykh h ⟨⟨u1,u2⟩,u3,u4⟩]
 have g:=h.g
 exact⟨g.d,g.p1,g.p2,g.e,g.w1,g.w2,g.h1,g.h2,key.1.1,key.1.2,key.2.1,key.2.2⟩
theorem yj7(v:Vw)(x y:Int):pixB v x y=qx v.x v.y v.p x (v.h-1-y):=rfl
theorem z2w{v:Vw}(h:VwS v){u:Tn}(hu:PB 100000000 u.u)(x y:Int):tB u (pixB v x y)=pixB (moW v u) (mvC (plX u) (plQ u) v.w x (v.w-1-y)) (v.w-1-mvL (plX u) (plQ u) v.w x (v.w-1-y)):=by
 rw[ykh h hu,yj7,yj7]
 dsimp only
 rw[h.hw]
 have k:=ymo (plX u) (znj u) u.u v.x v.y v.p v.w x (v.w-1-y)
 unfold tB
 rw[k,show v.w-1-(v.w-1-mvL (plX u) (plQ u) v.w x (v.w-1-y))=mvL (plX u) (plQ u) v.w x (v.w-1-y)by omega]
theorem moC_eq{v:Vw}(h:VwS v){u:Tn}(hu:PB 100000000 u.u){x y:Int}(hx:0<=x/\x<v.w)(hy:0<=y/\y<v.w):moC v u x y=⟨(tB u (pixB v x y)).x0+(tB u (pixB v x y)).x1,(tB u (pixB v x y)).y0+(tB u (pixB v x y)).y1⟩:=by
 have vx:=h.x;have vy:=h.y;have p1:=h.g.p1;have hp:=h.p;have w2:=h.g.w2;have hw:=h.hw
 obtain⟨⟨u1,u2⟩,u3,u4⟩:=hu
 have a1:=zmf (a:=x) (b:=v.p) (n:=8) hx.1 (by omega) (by omega)
 have a2:=zmf (a:=v.w-1-y) (b:=v.p) (n:=8) (by omega) (by omega) (by omega)
 have m1:(2*x+1)*v.p=2*(x*v.p)+v.p:=by rw[Int.add_mul,Int.one_mul,Int.mul_assoc]
 have m2:(2*(v.w-1-y)+1)*v.p=2*((v.w-1-y)*v.p)+v.p:=by rw[Int.add_mul,Int.one_mul,Int.mul_assoc]
 have mid:=yg5 (plX u) (znj u) u.u (pixB v x y)
 unfold moC
 rw[Wi2 (x:=2*v.x) (by omega) (by omega),Wi2 (x:=2*x) (by omega) (by omega),Wi2 (x:=2*x+1) (by omega) (by omega),m1,Wi2 (x:=2*(x*v.p)+v.p) (by omega) (by omega),Wi2 (x:=2*v.x+(2*(x*v.p)+v.p)) (by omega) (by omega),
  Wi2 (x:=2*v.y) (by omega) (by omega),Wi2 (x:=v.w-1) (by omega) (by omega),Wi2 (x:=v.w-1-y) (by omega) (by omega),Wi2 (x:=2*(v.w-1-y)) (by omega) (by omega),Wi2 (x:=2*(v.w-1-y)+1) (by omega) (by omega),m2,Wi2 (x:=2*((v.w-1-y)*v.p)+v.p) (by omega) (by omega),Wi2 (x:=2*v.y+(2*((v.w-1-y)*v.p)+v.p)) (by omega) (by omega),
  Wi2 (x:=2*u.u.x) (by omega) (by omega),Wi2 (x:=2*u.u.y) (by omega) (by omega)]
 rw[zfa ⟨⟨by dsimp only;omega,by dsimp only;omega⟩,by dsimp only;omega,by dsimp only;omega⟩ ⟨⟨by dsimp only;omega,by dsimp only;omega⟩,by dsimp only;omega,by dsimp only;omega⟩]
 have e1:(pixB v x y).x0+(pixB v x y).x1=2*v.x+(2*(x*v.p)+v.p):=by unfold pixB;dsimp only;omega
 have e2:(pixB v x y).y0+(pixB v x y).y1=2*v.y+(2*((v.w-1-y)*v.p)+v.p):=by unfold pixB;dsimp only;rw[hw];omega
 rw[e1,e2]at mid
 exact mid
theorem yne{v:Vw}(h:VwS v){u:Tn}(hu:PB 100000000 u.u){x y:Int}(hx:0<=x/\x<v.w)(hy:0<=y/\y<v.w):moI v u (moW v u) x y=mvC (plX u) (plQ u) v.w x (v.w-1-y)/\moJ v u (moW v u) x y=v.w-1-mvL (plX u) (plQ u) v.w x (v.w-1-y):=by
 have p1:=h.g.p1;have hp:=h.p;have w1:=h.g.w1;have w2:=h.g.w2;have hw:=h.hw
 have G:=ynd h hu
 obtain⟨⟨i1,i2⟩,l1,l2⟩:=mv_in (m:=plX u) (k:=plQ u) (w:=v.w) (cx:=x) (cy:=v.w-1-y) hx ⟨by omega,by omega⟩
 have c:=moC_eq h hu hx hy
 rw[z2w h hu]at c
 have ew:(moW v u).p=v.p:=rfl
 have eh:(moW v u).h=v.w:=hw
 unfold moI moJ
 rw[c]
 unfold pixB
 dsimp only
 rw[ew,eh]
 generalize mvC (plX u) (plQ u) v.w x (v.w-1-y)=I at *
 generalize mvL (plX u) (plQ u) v.w x (v.w-1-y)=L at *
 have g1:=G.x1;have g2:=G.x2;have g3:=G.y1;have g4:=G.y2
 generalize (moW v u).x=X at *
 generalize (moW v u).y=Y at *
 have a1:=zmf (a:=I) (b:=v.p) (n:=8) i1 (by omega) (by omega)
 have a2:=zmf (a:=L) (b:=v.p) (n:=8) l1 (by omega) (by omega)
 have d1:=ya0 (c:=I) (p:=v.p) i1 p1
 have d2:=ya0 (c:=L) (p:=v.p) l1 p1
 have m1:(2*I+1)*v.p=2*(I*v.p)+v.p:=by rw[Int.add_mul,Int.one_mul,Int.mul_assoc]
 have m2:(2*L+1)*v.p=2*(L*v.p)+v.p:=by rw[Int.add_mul,Int.one_mul,Int.mul_assoc]
 rw[show v.w-1-(v.w-1-L)=L by omega]
 rw[Wi2 (x:=2*X) (by omega) (by omega),Wi2 (x:=2*Y) (by omega) (by omega),Wi2 (x:=2*v.p) (by omega) (by omega),show X+I*v.p+(X+I*v.p+v.p)-2*X=(2*I+1)*v.p by omega,show Y+L*v.p+(Y+L*v.p+v.p)-2*Y=(2*L+1)*v.p by omega,
  Wi2 (x:=(2*I+1)*v.p) (by omega) (by omega),Wi2 (x:=(2*L+1)*v.p) (by omega) (by omega),d1,d2,Wi2 (x:=I) (by omega) (by omega),Wi2 (x:=L) (by omega) (by omega),Wi2 (x:=v.w-1) (by omega) (by omega),Wi2 (x:=v.w-1-L) (by omega) (by omega)]
 exact⟨rfl,rfl⟩
theorem yay:zam (zbx Tryz.f3.body)=[(0,.loop (zab (blkD Tryz.f3.body 0))),(1,blkD Tryz.f3.body 1),(2,.loop (zab (blkD Tryz.f3.body 2))),(3,blkD Tryz.f3.body 3),(4,.loop (zab (blkD Tryz.f3.body 4))),(5,blkD Tryz.f3.body 5)]:=by kernel_rfl
theorem mo_b2:zam (zab (blkD Tryz.f3.body 2))=[(3,blkD Tryz.f3.body 3),(4,.loop (zab (blkD Tryz.f3.body 4))),(5,blkD Tryz.f3.body 5)]:=by kernel_rfl
theorem yg3(m:Nat)(add:Nat->Bool)(sh:Nat->Sh)(v:Vw)(hm:m<=12)(w0:Dyn.Base Tryz.prog)(st:Dyn.St)(o:Dyn.Out)(h:moLp m add sh v 0 st=some o):Dyn.zai Tryz.prog w0 0 (.loop (zab (blkD Tryz.f3.body 0))) st o:=by
 simp only[moLp,Option.some.injEq]at h
 subst h
 refine zdv λhS hM=>?_
 generalize tnAt 2 st=u at *
 refine za9 (fuel:=3) zp0 mo (lp:=Dyn.noLp) (Dyn.zcl _ w0) (λi (_:Unit)=>moS m (moT add sh) v u i (moF add sh u) i) m (λ_ _=>()) () (zeu 263 [] [0,5,6,9] moK []) (zcq 263 _ _ _ _) (λi _=>moB m add sh v u i (moF add sh u) i) (λi _=>mo_B m add sh v u i (moF add sh u) i) (λi hi=>?_) ?_
  (hS▸((za0 263 _ _ _ _ st).trans (Dyn.Ent.nilSlot (P:=Tryz.prog) (k:=10) (by kernel_rfl) _ _)))
 ·obtain⟨k1,k2⟩:=hM i hi
  refine⟨λ_=>⟨⟨⟨by omega,by omega⟩,k1,zau _,trivial⟩,λhx=>?_,λ_=>⟨⟨⟨by omega,by omega⟩,zgn (by decide) (by omega),trivial⟩,rfl,?_⟩⟩,λhf=>?_⟩
  ·rw[k2]at hx;cases hx
  ·rw[Wn1 hi (by omega)]
   exact⟨rfl,Dyn.HeLe.refl _,Dyn.HeLe.refl _,Dyn.HeLe.refl _,zjv rfl,trivial⟩
  ·rw[decide_eq_false_iff_not]at hf
   exact absurd (show(i:Int)<(m:Int)by omega) hf
 ·refine⟨λht=>?_,λ_=>⟨rfl,Dyn.Fits.refl _⟩⟩
  rw[decide_eq_true_eq]at ht
  exact absurd (show(m:Int)<(m:Int)from ht) (by omega)
theorem yg4{m:Nat}{add:Nat->Bool}{sh:Nat->Sh}{v:Vw}{u:Tn}(h:MoOk m add sh v u){x:Nat}(hx:x<v.w.toNat)(w0:Dyn.Base Tryz.prog){s0:Dyn.St}(h0:Dyn.Ent w0 s0 (myQ m add sh v u x 0)):Dyn.zai Tryz.prog w0 4 (.loop (zab (blkD Tryz.f3.body 4))) s0 (.leaf .normal (myQ m add sh v u x v.w)):=by
 have w1:=h.w1;have w2:=h.w2;have p1:=h.p1;have p2:=h.p2
 have ew:((v.w.toNat:Nat):Int)=v.w:=by omega
 have e2:W (2*v.p)≠0:=by rw[Wi2 (by omega) (by omega)];omega
 have k:=za9 (fuel:=3) (P:=Tryz.prog) (w0:=w0) (id:=4) zp0 mo (lp:=Dyn.noLp) (Dyn.zcl _ w0) (λy (_:Unit)=>myQ m add sh v u x y) v.w.toNat (λ_ _=>()) () (zeu 263 [] [5,6,15,16,18] myK []) (zcq 263 _ _ _ _)
  (λy _=>myB v u (moW v u) (pxN v) (λi=>(cvI (lstD m (moT add sh)) v i).1) (λi=>(cvI (lstD m (moT add sh)) v i).2) (pxN (moW v u)) (λi=>(cvI (lstD m (moF add sh u)) (moW v u) i).1) (λi=>(cvI (lstD m (moF add sh u)) (moW v u) i).2) x y) (λy _=>my_B _ _ _ _ _ _ _ _ _ _ _) (λy hy=>?_) ?_ h0
 ·rw[←ew];exact k
 ·obtain⟨q1,q2,q3,q4,q5⟩:=h.st x y hx hy
  have hg:moG v u (moW v u) x y=false:=by
   unfold moG
   rw[decide_eq_false (by omega),decide_eq_false (by omega),decide_eq_false (by omega),decide_eq_false (by omega)];rfl
  have ha:(cvI (lstD m (moT add sh)) v (moP v x y).toNat)=cvI (lstD m (moF add sh u)) (moW v u) (moQ v u (moW v u) x y).toNat:=q5
  refine⟨λ_=>⟨⟨e2,e2,trivial⟩,⟨z3q ⟨q3,trivial⟩,z3q ⟨q4,trivial⟩,trivial⟩,λhc=>?_,λ_=>⟨rfl,?_⟩⟩,λhf=>?_⟩
  ·rw[hg]at hc
   dsimp only at hc
   rw[ha]at hc
   simp at hc
  ·rw[Wn1 hy (by omega)];exact Dyn.Fits.refl _
  ·rw[decide_eq_false_iff_not]at hf
   exact absurd (show(y:Int)<v.w by omega) hf
 ·refine⟨λht=>?_,λ_=>⟨rfl,Dyn.Fits.refl _⟩⟩
  rw[decide_eq_true_eq]at ht
  omega
theorem z29(m:Nat)(add:Nat->Bool)(sh:Nat->Sh)(v:Vw)(w0:Dyn.Base Tryz.prog)(st:Dyn.St)(o:Dyn.Out)(h:moLp m add sh v 4 st=some o):Dyn.zai Tryz.prog w0 4 (.loop (zab (blkD Tryz.f3.body 4))) st o:=by
 simp only[moLp,Option.some.injEq]at h
 subst h
 exact zdv λhS hM=>yg4 hM.1 hM.2 w0 (hS▸za0 263 _ _ _ _ st)
theorem yg2(m:Nat)(add:Nat->Bool)(sh:Nat->Sh)(v:Vw)(w0:Dyn.Base Tryz.prog)(st:Dyn.St)(o:Dyn.Out)(h:moLp m add sh v 2 st=some o):Dyn.zai Tryz.prog w0 2 (.loop (zab (blkD Tryz.f3.body 2))) st o:=by
 simp only[moLp,Option.some.injEq]at h
 subst h
 refine zdv λhS hM=>?_
 generalize tnAt 2 st=u at *
 have w1:=hM.w1;have w2:=hM.w2
 have ew:((v.w.toNat:Nat):Int)=v.w:=by omega
 have k:=za9 (fuel:=3) (P:=Tryz.prog) (w0:=w0) (id:=2) zp0 mo (lp:=moLp m add sh v) (by rw[mo_b2];exact zaa (λs o h=>by cases h) (zaa (z29 m add sh v w0) (zaa (λs o h=>by cases h) zao))) (λx (_:Unit)=>mxQ m add sh v u x) v.w.toNat (λ_ _=>()) () (zeu 263 [] [5,6,15,16,18] mxK []) (zcq 263 _ _ _ _) (λx _=>mxB m add sh v u x) (λx _=>mx_B m add sh v u x) (λx hx=>?_) ?_
  (hS▸za0 263 _ _ _ _ st)
 ·rw[←ew];exact k
 ·refine⟨λ_=>⟨⟨rfl,⟨hM,hx⟩,trivial⟩,rfl,?_⟩,λhf=>?_⟩
  ·rw[Wn1 hx (by omega)];exact Dyn.Fits.refl _
  ·rw[decide_eq_false_iff_not]at hf
   exact absurd (show(x:Int)<v.w by omega) hf
 ·refine⟨λht=>?_,λ_=>⟨rfl,Dyn.Fits.refl _⟩⟩
  rw[decide_eq_true_eq]at ht
  omega
theorem sh_of{m:Nat}{add:Nat->Bool}{σ:Nat->Shp}{u:Tn}(hT:∀i,i<m->TamO (σ i))(hu:PB 100000000 u.u){i:Nat}(hi:i<m):moF add (λi=>toSh (σ i)) u i=zbv (add i) (toSh (zga (σ i) u)):=by
 unfold moF
 rw[(zm4 (hT i hi) hu).2.1]
theorem mo_ok{m:Nat}(hm:m<=12)(add:Nat->Bool){σ:Nat->Shp}(hT:∀i,i<m->TamO (σ i)){v:Vw}(h:VwS v){u:Tn}(hu:PB 100000000 u.u) :
  (PxD m (moT add λi=>toSh (σ i))/\GoodN (lstD m (moT add λi=>toSh (σ i))))/\(PxD m (moF add (λi=>toSh (σ i)) u)/\GoodN (lstD m (moF add (λi=>toSh (σ i)) u)))/\MoOk m add (λi=>toSh (σ i)) v u:=by
 have A:=z0m (n:=m) (f:=moT add λi=>toSh (σ i)) (add:=add) (sub:=σ) (by omega) (λi hi=>⟨(hT i hi).B,(hT i hi).c⟩) λi hi=>.inl rfl
 have B:=z0m (n:=m) (f:=moF add (λi=>toSh (σ i)) u) (add:=add) (sub:=λi=>zga (σ i) u) (by omega) (λi hi=>(zm4 (hT i hi) hu).2.2.1) λi hi=>.inl (sh_of hT hu hi)
 have gA:=A.2.2 (z3p λi hi=>(hT i hi).g)
 have gB:=B.2.2 (z3p λi hi=>(zm4 (hT i hi) hu).2.2.2.1)
 refine⟨⟨A.1,gA⟩,⟨B.1,gB⟩,h.g.w1,h.g.w2,h.g.p1,h.p,λx y hx hy=>?_⟩
 have G:=ynd h hu
 have w1:=h.g.w1;have w2:=h.g.w2;have hw:=h.hw
 have ew:(moW v u).w=v.w:=rfl
 have eh:(moW v u).h=v.h:=rfl
 have xi:0<=(x:Int)/\(x:Int)<v.w:=by omega
 have yi:0<=(y:Int)/\(y:Int)<v.w:=by omega
 obtain⟨eI,eJ⟩:=yne h hu xi yi
 obtain⟨⟨i1,i2⟩,l1,l2⟩:=mv_in (m:=plX u) (k:=plQ u) (w:=v.w) (cx:=(x:Int)) (cy:=v.w-1-y) xi ⟨by omega,by omega⟩
 have pt:=z2w h hu x y
 rw[←eI,←eJ]at pt
 have i1':0<=moI v u (moW v u) x y/\moI v u (moW v u) x y<v.w:=by rw[eI];exact⟨i1,i2⟩
 have j1':0<=moJ v u (moW v u) x y/\moJ v u (moW v u) x y<v.w:=by rw[eJ];omega
 unfold moQ
 generalize moI v u (moW v u) x y=I at *
 generalize moJ v u (moW v u) x y=J at *
 have yw:=zmf (a:=(y:Int)) (b:=v.w) (n:=8) yi.1 (by omega) (by omega)
 have jw:=zmf (a:=J) (b:=v.w) (n:=8) j1'.1 (by omega) (by omega)
 have eP:moP v x y=((y*v.w.toNat+x:Nat):Int):=by
  unfold moP
  rw[Wi2 (x:=(y:Int)*v.w) (by omega) (by omega),Wi2 (by omega) (by omega),Int.natCast_add,Int.natCast_mul,show((v.w.toNat:Nat):Int)=v.w by omega]
 have eQ:W (W (J*v.w)+I)=((J.toNat*v.w.toNat+I.toNat:Nat):Int):=by
  rw[Wi2 (x:=J*v.w) (by omega) (by omega),Wi2 (by omega) (by omega),Int.natCast_add,Int.natCast_mul,show((v.w.toNat:Nat):Int)=v.w by omega,show((J.toNat:Nat):Int)=J by omega,show((I.toNat:Nat):Int)=I by omega]
 have n1:=z2p h.g (x:=x) (y:=y) hx (by omega)
 have n2:=z2p G (x:=I.toNat) (y:=J.toNat) (by rw[ew];omega) (by rw[eh];omega)
 rw[ew]at n2
 rw[eP,eQ]
 refine⟨i1',j1',⟨by omega,by omega⟩,⟨by omega,by omega⟩,?_⟩
 rw[Int.toNat_natCast,Int.toNat_natCast]
 obtain⟨c1,c2⟩:=yms h.g (x:=x) (y:=y) hx
 obtain⟨d1,d2⟩:=yms G (x:=I.toNat) (y:=J.toNat) (by rw[ew];omega)
 rw[ew]at d1 d2
 have b1:pxI v (y*v.w.toNat+x)=pixB v x y:=by unfold pxI;rw[c1,c2]
 have b2:pxI (moW v u) (J.toNat*v.w.toNat+I.toNat)=tB u (pixB v x y):=by
  unfold pxI
  rw[d1,d2,show((J.toNat:Nat):Int)=J by omega,show((I.toNat:Nat):Int)=I by omega,pt]
 have q1:=ygh h.g n1
 have q2:=ygh G n2
 have D1:=ygi h.g q1.1 q1.2
 have D2:=ygi G q2.1 q2.2
 have nr:=ymr h.g h.x h.y h.p n1
 unfold moA moD cvI
 rw[b1,b2]
 have D1':Dv v.d.toNat (pixB v x y):=by rw[←b1];exact D1
 have D2':Dv v.d.toNat (tB u (pixB v x y)):=by rw[←b2];exact D2
 rw[b1]at nr
 symm
 refine yoq (d:=v.d.toNat) (by rcases h.g.d with e|e<;>omega) D1' D2' λq hs hf=>?_
 rw[A.2.1,B.2.1]
 have f1:=hs.fa;have f2:=hs.x;have f3:=hs.fb;have f4:=hs.fc;have f5:=hs.y;have f6:=hs.fd
 refine zvq m λi hi z=>?_
 show zek z (zbf (zga (σ i) u) (tB u q)) (add i)=zek z (zbf (σ i) q) (add i)
 rw[(zm4 (hT i hi) hu).2.2.2.2 q ⟨by omega,f2,by omega,by omega,f5,by omega⟩]
theorem z28{m:Nat}(hm:m<=12)(add:Nat->Bool){σ:Nat->Shp}(hT:∀i,i<m->TamO (σ i)){v:Vw}(h:VwS v){u:Tn}(hu:PB 100000000 u.u):(moO0 m add (λi=>toSh (σ i)) v u).sat λr=>Dyn.RVLe r (rB true):=by
 obtain⟨⟨a1,a2⟩,⟨b1,b2⟩,c⟩:=mo_ok hm add hT h hu
 exact⟨⟨rfl,λi hi=>⟨zl0 (hT i hi).B,(zm4 (hT i hi) hu).1⟩,trivial⟩,⟨a1,a2,h.g,trivial⟩,⟨b1,b2,ynd h hu,trivial⟩,λhc=>(by cases hc),λ_=>⟨⟨rfl,c,trivial⟩,zby rfl⟩⟩
theorem zzn(s:Shp)(hs:ShW s)(v:Vw)(t:Tn)(q:Bool):Dyn.zey Tryz.prog 3 [dvL (toSh s),dvV v,dvT t,dvB q] (rB true):=by
 cases s with
 |nil=>exact hs.elim
 |mk k a b c r l n add sub=>
  have hw:ShW (zeq n add sub):=hs
  have hm:qM5 n (λi=>zbv (add i) (toSh (sub i)))<=12:=Nat.min_le_right _ _
  have hv:=yd4 v (h:=(tmW v).w) (.inr rfl)
  have hV:VwS (qW5 v):=⟨hv.1,rfl,hv.2.1,hv.2.2.1,hv.2.2.2⟩
  have u1:PB 100000000 (qT1 t).u:=zjd t.u (by decide) (by decide)
  have u2:PB 100000000 (qT2 t).u:=zd8 (zjd (zdc t.u 100000000) (by decide) (by decide)) (show(50:Int)<=100000000 by decide)
  refine Dyn.zh9 (lp:=moLp (qM5 n (λi=>zbv (add i) (toSh (sub i)))) (qA5 n (λi=>zbv (add i) (toSh (sub i)))) (qS5 n (λi=>zbv (add i) (toSh (sub i)))) (qW5 v)) (fuel:=6) zp0 mo Tryz.func3 (by kernel_rfl) (c:=zbx Tryz.f3.body) (by kernel_rfl)
   (λw0=>by rw[yay];exact zaa (yg3 _ _ _ _ hm w0) (zaa (λs o h=>by cases h) (zaa (yg2 _ _ _ _ w0) (zaa (λs o h=>by cases h) (zaa (z29 _ _ _ _ w0) (zaa (λs o h=>by cases h) zao))))))
   (by kernel_rfl) (mo_O n (λi=>zbv (add i) (toSh (sub i))) v t q) ?_
  have eX:∀m,(obX m λi=>zbv (add i) (toSh (sub i)))=toSh (zeq m add sub):=λ_=>rfl
  have i0:0<=i5 n/\i5 n<=(n:Int):=by unfold i5;split<;>omega
  unfold moO
  rw[eX,eX,za7]
  refine⟨⟨yky hw,trivial⟩,λ_=>zby rfl,λh=>?_⟩
  have h1:zka (zeq n add sub)=true:=by
   cases e:zka (zeq n add sub)with
   |true=>rfl
   |false=>rw[e]at h;cases h
  have hB:=lf_B h1
  have hB5:ShB (zeq (i5 n).toNat add sub):=⟨hB.1,by have:=hB.2.1;omega,λi hi=>hB.2.2 i (by omega)⟩
  have ex:qX5 n (λi=>zbv (add i) (toSh (sub i)))=zeq (i5 n).toNat add sub:=by unfold qX5;rw[eX,za7]
  have eS:qS5 n (λi=>zbv (add i) (toSh (sub i)))=λi=>toSh (zl4 (sub i) true 2):=by
   funext i
   unfold qS5
   rw[ex];rfl
  have eM:qM5 n (λi=>zbv (add i) (toSh (sub i)))=min (i5 n).toNat 12:=by unfold qM5;rw[ex];rfl
  have tam:∀i,i<qM5 n (λi=>zbv (add i) (toSh (sub i)))->TamO (zl4 (sub i) true 2):=λi hi=>tamO (sub i) (hB.2.2 i (by rw[eM]at hi;omega))
  rw[eS]
  exact⟨⟨i0,zl0 hB5,rfl,trivial⟩,⟨by decide,trivial⟩,λ_=>⟨⟨by decide,trivial⟩,z28 hm _ tam hV u2⟩,λ_=>z28 hm _ tam hV u1⟩
end Go.Proofs.YtmekpbopoknigaaGreatDoor

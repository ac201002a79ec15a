import Derived.Test.YtmekpbopoknigaaGreatDoorQM
namespace Go.Proofs.YtmekpbopoknigaaGreatDoor
open Go Go.RowKit Sym
set_option maxRecDepth 100000
def ruM(a:Int×Int):Int:=W ((W (a.1+a.2)).tdiv 2)
def ruStep(v:Int)(a:Int×Int):Int×Int:=(bif decide (W (ruM a*ruM a)>=v)then a.1 else W (ruM a+1),bif decide (W (ruM a*ruM a)>=v)then ruM a else a.2)
def ruG(v:Int)(_:Nat)(a:Int×Int):Int×Int:=ruStep v a
def ruCnt(v:Int):Nat->Int×Int->Nat
 |0,_=>0
 |f+1,a=>if a.1<a.2 then ruCnt v f (ruStep v a)+1 else 0
def ruA:Int×Int:=(0,2147483648)
def ruN(v:Int):Nat:=ruCnt v 32 ruA
def rupF(v:Int):Int:=(foldN (ruG v) ruA (ruN v)).1
def ruI(a:Int×Int):Prop:=0<=a.1/\a.1<=a.2/\a.2<=2147483648
theorem ruM_eq{a:Int×Int}(h:ruI a):ruM a=(a.1+a.2)/2:=by
 obtain⟨h1,h2,h3⟩:=h
 unfold ruM
 rw[W_id (x:=a.1+a.2) (by omega) (by omega),Int.tdiv_eq_ediv_of_nonneg (by omega),W_id (by omega) (by omega)]
theorem ru_step{v:Int}{a:Int×Int}(h:ruI a)(hlt:a.1<a.2):ruI (ruStep v a)/\2*((ruStep v a).2-(ruStep v a).1)<=a.2-a.1:=by
 have m:=ruM_eq h
 obtain⟨h1,h2,h3⟩:=h
 have w:W (ruM a+1)=ruM a+1:=by rw[m];exact W_id (by omega) (by omega)
 unfold ruStep ruI
 rw[w]
 cases decide (W (ruM a*ruM a)>=v)
 ·exact⟨⟨by dsimp only[cond_false];omega,by dsimp only[cond_false];omega,by dsimp only[cond_false];omega⟩,by dsimp only[cond_false];omega⟩
 ·exact⟨⟨by dsimp only[cond_true];omega,by dsimp only[cond_true];omega,by dsimp only[cond_true];omega⟩,by dsimp only[cond_true];omega⟩
theorem foldN_ru(v:Int)(a:Int×Int):∀k,foldN (ruG v) a (k+1)=foldN (ruG v) (ruStep v a) k
 |0=>rfl
 |k+1=>by
  show ruG v (k+1) (foldN (ruG v) a (k+1))=ruG v k (foldN (ruG v) (ruStep v a) k)
  rw[foldN_ru v a k];rfl
theorem ru_run(v:Int):∀(f:Nat) (a:Int×Int),ruI a->a.2-a.1<2 ^ f->(∀k,k<ruCnt v f a->(foldN (ruG v) a k).1<(foldN (ruG v) a k).2)/\¬(foldN (ruG v) a (ruCnt v f a)).1<(foldN (ruG v) a (ruCnt v f a)).2
 |0,a,h,hf=>by
  refine⟨λk hk=>absurd hk (Nat.not_lt_zero k),?_⟩
  show ¬a.1<a.2
  have:(2:Int) ^ 0=1:=by decide
  omega
 |f+1,a,h,hf=>by
  by_cases hlt:a.1<a.2
  ·have st:=ru_step (v:=v) h hlt
   have e:(2:Int) ^ (f+1)=2*2 ^ f:=by rw[Int.pow_succ,Int.mul_comm]
   have ih:=ru_run v f (ruStep v a) st.1 (by omega)
   have c:ruCnt v (f+1) a=ruCnt v f (ruStep v a)+1:=by simp only[ruCnt];rw[if_pos hlt]
   rw[c]
   refine⟨λk hk=>?_,?_⟩
   ·cases k with
    |zero=>exact hlt
    |succ k=>rw[foldN_ru];exact ih.1 k (by omega)
   ·rw[foldN_ru];exact ih.2
  ·have c:ruCnt v (f+1) a=0:=by simp only[ruCnt];rw[if_neg hlt]
   rw[c]
   exact⟨λk hk=>absurd hk (Nat.not_lt_zero k),hlt⟩
theorem ru_all(v:Int):(∀k,k<ruN v->(foldN (ruG v) ruA k).1<(foldN (ruG v) ruA k).2)/\¬(foldN (ruG v) ruA (ruN v)).1<(foldN (ruG v) ruA (ruN v)).2:=ru_run v 32 ruA ⟨by decide,by decide,by decide⟩ (by decide)
def ruS(v:Int)(a:Int×Int):Dyn.St:=mkS 22 [(0,sI v),(2,.k (vi 0)),(3,sI a.1),(4,sI a.2)] []
def ruK:List Nat:=[0,2,3,4]
def ruB(v:Int)(a:Int×Int):Dyn.Out:=.ite (decide (a.1<a.2)) (.leaf .normal (ruS v (ruStep v a))) (.leaf (.exit 0) (ruS v a))
theorem ru_B(v:Int)(a:Int×Int):(Dyn.lexec Tryz.prog tabF0 Dyn.noLp 3 (unloopD (blkD Tryz.f85.body 0)) .leaf (ruS v a)).rl (keepR 22 [] [] ruK [2])=ruB v a:=by kernel_rfl
def ruLp(v:Int):Dyn.Lp:=λid st=>match id with
 |0=>some (.side [keepA 22 [] [] ruK (2 ^ 3+2 ^ 4) st=ruS v ruA] (.leaf .normal (ruS v (foldN (ruG v) ruA (ruN v)))))
 |_=>none
theorem ru_blocks:blocksL (bodyD Tryz.f85.body)=[(0,.loop (unloopD (blkD Tryz.f85.body 0))),(1,blkD Tryz.f85.body 1)]:=by kernel_rfl
theorem ru_b0:blocksL (unloopD (blkD Tryz.f85.body 0))=[(1,blkD Tryz.f85.body 1)]:=by kernel_rfl
theorem ru_loop(v:Int)(w0:Dyn.Base Tryz.prog)(st:Dyn.St)(o:Dyn.Out)(h:ruLp v 0 st=some o):Dyn.BlockSound Tryz.prog w0 0 (.loop (unloopD (blkD Tryz.f85.body 0))) st o:=by
 simp only[ruLp,Option.some.injEq]at h
 subst h
 refine side_one λhS=>?_
 refine fold_block (fuel:=3) tabF0_ok mo (lp:=Dyn.noLp) (by rw[ru_b0];exact lpOk_cons (λs o h=>by cases h) lpOk_nil) (λ_ a=>ruS v a) (ruN v) (ruG v) ruA (keepR 22 [] [] ruK [2]) (keepR_ent 22 _ _ _ _) (λ_ a=>ruB v a) (λ_ a=>ru_B v a) (λi hi=>?_) ?_ (hS▸keepA_ent 22 _ _ _ _ st)
 ·exact⟨λ_=>⟨rfl,Dyn.Fits.refl _⟩,λhf=>absurd ((ru_all v).1 i hi) (by simpa using hf)⟩
 ·exact⟨λht=>absurd (by simpa using ht) (ru_all v).2,λ_=>⟨rfl,Dyn.Fits.refl _⟩⟩
theorem rootUp_ok(v:Int):Dyn.CallD Tryz.prog 85 [dvI v] (rI (rupF v)):=
 Dyn.dcontract (lp:=ruLp v) (fuel:=3) (X:=tabF0) tabF0_ok mo Tryz.func85 (by kernel_rfl) (c:=bodyD Tryz.f85.body) (by kernel_rfl)
  (λw0=>by rw[ru_blocks];exact lpOk_cons (ru_loop v w0) (lpOk_cons (λs o h=>by cases h) lpOk_nil))
  (by kernel_rfl) (O:=.side [ruS v ruA=ruS v ruA] (.leaf (rI (rupF v)))) (by kernel_rfl) ⟨⟨rfl,trivial⟩,rfl⟩
def tkF(f:Bool)(a b:B4):B4:=⟨bif f then imin a.x0 b.x0 else b.x0,bif f then imin a.y0 b.y0 else b.y0,bif f then imax a.x1 b.x1 else b.x1,bif f then imax a.y1 b.y1 else b.y1⟩
def bxV(b:B4):List Value:=[vi b.x0,vi b.y0,vi b.x1,vi b.y1]
def tkL(f:Bool)(a:B4):Dyn.Lent:=[(4,[vb f]),(114,bxV a)]
theorem tk_O(f:Bool)(a b:B4):(Dyn.dfunX Tryz.prog tabF0 Dyn.noLp 3 Tryz.f86 (tkL f a) [.d (dvX b),.lp 0 0,.lp 1 0]).rx Tryz.prog (tkL f a) Tryz.f86.results
  = .ite f (.leaf (.tuple ⟨[]⟩) [[vb true],bxV (tkF true a b)]) (.leaf (.tuple ⟨[]⟩) [[vb true],bxV (tkF false a b)]):=by kernel_rfl
theorem take_ok(f:Bool)(a b:B4):Dyn.CallX Tryz.prog 86 [.d (dvX b),.lp 0 0,.lp 1 0] (tkL f a) (.tuple ⟨[]⟩) [[vb true],bxV (tkF f a b)]:=
 Dyn.xcontract (lp:=Dyn.noLp) (fuel:=3) (X:=tabF0) tabF0_ok mo Tryz.func86 (by kernel_rfl) (c:=bodyD Tryz.f86.body) (by kernel_rfl) (λw0=>Dyn.noLp_ok _ w0)
  (by kernel_rfl) (by kernel_rfl) (by kernel_rfl) (tk_O f a b) ⟨λh=>by subst h;exact⟨rfl,rfl⟩,λh=>by subst h;exact⟨rfl,rfl⟩⟩
def enTk:List Dyn.LA->Dyn.Lent->Option (Value×List (List Value)×List Prop)
 |[.d u,.lp 0 0,.lp 1 0],[(t,[.bool f]),(t2,[.int .i64 x0,.int .i64 y0,.int .i64 x1,.int .i64 y1])]=>match aX u,Nat.beq t 4,Nat.beq t2 114 with
  |some b,true,true=>some (.tuple ⟨[]⟩,[[vb true],bxV (tkF f ⟨x0,y0,x1,y1⟩ b)],[])
  |_,_,_=>none
 |_,_=>none
theorem CallX_le1{P:Program}{K:Nat}{u u':Dyn.DV}{l:List Dyn.LA}{lent:Dyn.Lent}{r:Value}{o:List (List Value)}(h1:Dyn.DVLe u u')(k:Dyn.CallX P K (.d u'::l) lent r o):Dyn.CallX P K (.d u::l) lent r o:=λw F bs us hF hn hd hl hden=>k w F bs us hF hn hd hl (by
 cases us with
 |nil=>exact hden
 |cons x us=>exact⟨Dyn.DenV_le h1 hden.1,hden.2⟩)
theorem enTk_ok:Dyn.EntryXOk Tryz.prog (86,enTk):=λas' lent u out ps h hp=>by
 dsimp only at h
 unfold enTk at h
 split at h
 ·rename_i t f t2 x0 y0 x1 y1
  split at h
  ·rename_i b hb ht ht2
   have e1:=Nat.eq_of_beq_eq_true ht
   have e2:=Nat.eq_of_beq_eq_true ht2
   subst e1;subst e2
   simp only[Option.some.injEq,Prod.mk.injEq]at h
   obtain⟨rfl,rfl,rfl⟩:=h
   exact CallX_le1 (aX_eq hb) (take_ok f ⟨x0,y0,x1,y1⟩ b)
  ·cases h
 ·cases h
def BdOk(x:Sh)(g:Sh->B4×Bool):Prop:=Dyn.CallD Tryz.prog 69 [dvS x] (.tup [dvX (g x).1,dvB (g x).2])
def tdBd(Pd:Sh->Prop)(g:Sh->B4×Bool):List Dyn.EntryD:=[(85,en1D qI λv=>rI (rupF v)),(69,en1D (qAnd qS Pd) λx=>.tup [dvX (g x).1,dvB (g x).2])]
def drBd(K:Nat):Bool:=Nat.beq K 86
def tabBd(Pd:Sh->Prop)(g:Sh->B4×Bool):Dyn.Tabs:=Dyn.tabsX tbF (tdBd Pd g) [(86,enTk)] drBd dtyS true
theorem tabBd_ok{Pd:Sh->Prop}{g:Sh->B4×Bool}(ih:∀x,Pd x->BdOk x g):Dyn.TabsOk Tryz.prog (tabBd Pd g):=
 Dyn.tabsX_ok tbF_ok (List.forall_mem_cons.2 ⟨en1D_ok qI_ok λv _=>rootUp_ok v,List.forall_mem_cons.2 ⟨en1D_ok (qAnd_ok qS_ok) λx h=>ih x h.1,λ_ h=>by cases h⟩⟩) (List.forall_mem_cons.2 ⟨enTk_ok,λ_ h=>by cases h⟩)
def bdQ:Bool×B4:=(false,⟨0,0,0,0⟩)
def bdI(l:Ctr)(i k:Nat)(q:Bool×B4):Bool×B4:=(true,tkF q.1 q.2 (aroundF (l.p i k) (l.p i k) 0))
def bdO(l:Ctr)(i:Nat)(q:Bool×B4):Bool×B4:=foldN (bdI l i) q (l.m i)
def bdP(g:Sh->B4×Bool)(sh:Nat->Sh)(add:Nat->Bool)(i:Nat)(q:Bool×B4):Bool×B4:=bif !(add i)then q else bif (g (sh i)).2 then(true,tkF q.1 q.2 (g (sh i)).1)else q
def sFn:Dyn.SV:=.v (.func (.func 86) ⟨[]⟩ ⟨[.pointer (some ⟨4,0,none⟩),.pointer (some ⟨3,0,none⟩)]⟩)
def bdH(s:Sh)(q:Bool×B4):List (Option Dyn.HE):=[some (.deep (cS s)),some (.cells 37 (shV 0 8 s)),some (.cells 114 [vi 0,vi 0,vi 0,vi 0]),some (.cells 114 (bxV q.2)),some (.cells 4 [vb q.1])]
def bdL:List (Nat×Dyn.SV):=[(1,sL 1),(2,sL 2),(3,.k (vb false)),(6,sL 3),(7,sL 4),(8,sFn)]
def bdS(s:Sh)(q:Bool×B4)(i:Int):Dyn.St:=mkS 114 (bdL++[(72,sH 0 8 s.l.n),(73,sI s.l.n),(74,sI i)]) (bdH s q)
def bdT(s:Sh)(q:Bool×B4)(i j:Int):Dyn.St:=mkS 114 (bdL++[(10,sH 5 0 (s.l.m i.toNat)),(72,sH 0 8 s.l.n),(73,sI s.l.n),(74,sI i),(78,sH 5 0 (s.l.m i.toNat)),(79,sI (s.l.m i.toNat)),(80,sI j)]) (bdH s q++[some (.deep [cRow (s.l.m i.toNat) (s.l.p i.toNat)])])
def bdU(s:Sh)(q:Bool×B4)(i:Int):Dyn.St:=mkS 114 (bdL++[(92,sH 0 9 s.n),(93,sI s.n),(94,sI i)]) (bdH s q)
def bdK0:List Nat:=[1,2,3,6,7,8,72,73,74]
def bdK1:List Nat:=[1,2,3,6,7,8,10,72,73,74,78,79,80]
def bdK2:List Nat:=[1,2,3,6,7,8,92,93,94]
def accB(st:Dyn.St):Bool×B4:=match st.heap.getD 3 none,st.heap.getD 4 none with
 |some (.cells _ [.int _ x0,.int _ y0,.int _ x1,.int _ y1]),some (.cells _ [.bool f])=>(f,⟨x0,y0,x1,y1⟩)
 |_,_=>bdQ
def bdLp(g:Sh->B4×Bool)(sh:Nat->Sh)(add:Nat->Bool)(s:Sh):Dyn.Lp:=λid st=>match id with
 |1=>some (.side [keepA 114 [0,1,2,4,5] [] bdK0 (2 ^ 74) st=bdS s bdQ 0] (.leaf .normal (bdS s (foldN (bdO s.l) bdQ s.l.n) s.l.n)))
 |3=>
  let q:=accB st
  let i:=intD (st.slots.getD 74 .junk)
  some (.side [keepA 114 [0,1,2,3,4] [10] bdK1 (2 ^ 80) st=bdT s q i 0,0<=i/\i<s.l.n] (.leaf .normal (bdT s (bdO s.l i.toNat q) i (s.l.m i.toNat))))
 |5=>
  let q:=accB st
  some (.side [keepA 114 [0,1,2,3,4] [] bdK2 (2 ^ 94) st=bdU s q 0] (.leaf .normal (bdU s (foldN (bdP g sh add) q s.n) s.n)))
 |_=>none
def bdBi(s:Sh)(q:Bool×B4)(i j:Nat):Dyn.Out:=
 .ite (decide ((j:Int)<s.l.m i)) (.side [0<=(j:Int)/\(j:Int)<s.l.m i] (.leaf .normal (bdT s (bdI s.l i j q) i (W (j+1))))) (.leaf (.exit 3) (bdT s q i j))
def bdBo(s:Sh)(q:Bool×B4)(i:Nat):Dyn.Out:=
 .ite (decide ((i:Int)<s.l.n)) (.side [0<=(i:Int)/\(i:Int)<s.l.n] (.side [bdT s q i 0=bdT s q i 0,0<=(i:Int)/\(i:Int)<s.l.n] (.leaf .normal (bdS s (bdO s.l i q) (W (i+1)))))) (.leaf (.exit 1) (bdS s q i))
def bdBp(Pd:Sh->Prop)(g:Sh->B4×Bool)(sh:Nat->Sh)(add:Nat->Bool)(s:Sh)(q:Bool×B4)(i:Nat):Dyn.Out:=
 .ite (decide ((i:Int)<s.n)) (.side [0<=(i:Int)/\(i:Int)<s.n] (.ite (!(add i)) (.leaf .normal (bdU s q (W (i+1)))) (.side [Pd (sh i),ctrSelf (sh i).l] (.ite (g (sh i)).2 (.leaf .normal (bdU s (true,tkF q.1 q.2 (g (sh i)).1) (W (i+1)))) (.leaf .normal (bdU s q (W (i+1)))))))) (.leaf (.exit 5) (bdU s q i))
theorem bd_Bi(Pd:Sh->Prop)(g:Sh->B4×Bool)(sh:Nat->Sh)(add:Nat->Bool)(s:Sh)(q:Bool×B4)(i j:Nat):(Dyn.lexec Tryz.prog (tabBd Pd g) (bdLp g sh add s) 3 (unloopD (blkD Tryz.f69.body 3)) .leaf (bdT s q i j)).rl (keepR 114 [0,1,2,3,4] [10] bdK1 [])=bdBi s q i j:=by kernel_rfl
theorem bd_Bo(Pd:Sh->Prop)(g:Sh->B4×Bool)(sh:Nat->Sh)(add:Nat->Bool)(s:Sh)(q:Bool×B4)(i:Nat):(Dyn.lexec Tryz.prog (tabBd Pd g) (bdLp g sh add s) 3 (unloopD (blkD Tryz.f69.body 1)) .leaf (bdS s q i)).rl (keepR 114 [0,1,2,3,4] [] bdK0 [])=bdBo s q i:=by kernel_rfl
theorem bd_Bp(Pd:Sh->Prop)(g:Sh->B4×Bool)(k:Int)(a b c:P2)(r:Int)(l:Ctr)(n:Nat)(add:Nat->Bool)(sh:Nat->Sh)(q:Bool×B4)(i:Nat):(Dyn.lexec Tryz.prog (tabBd Pd g) (bdLp g sh add (mkSh k a b c r l n add sh)) 3 (unloopD (blkD Tryz.f69.body 5)) .leaf (bdU (mkSh k a b c r l n add sh) q i)).rl (keepR 114 [0,1,2,3,4] [] bdK2 [])=bdBp Pd g sh add (mkSh k a b c r l n add sh) q i:=by kernel_rfl
theorem bd_blocks:blocksL (bodyD Tryz.f69.body)=[(0,blkD Tryz.f69.body 0),(1,.loop (unloopD (blkD Tryz.f69.body 1))),(2,blkD Tryz.f69.body 2),(3,.loop (unloopD (blkD Tryz.f69.body 3))),(4,blkD Tryz.f69.body 4),(5,.loop (unloopD (blkD Tryz.f69.body 5))),(6,blkD Tryz.f69.body 6)]:=by kernel_rfl
theorem bd_b1:blocksL (unloopD (blkD Tryz.f69.body 1))=[(2,blkD Tryz.f69.body 2),(3,.loop (unloopD (blkD Tryz.f69.body 3))),(4,blkD Tryz.f69.body 4)]:=by kernel_rfl
theorem bd_b3:blocksL (unloopD (blkD Tryz.f69.body 3))=[(4,blkD Tryz.f69.body 4)]:=by kernel_rfl
theorem bd_b5:blocksL (unloopD (blkD Tryz.f69.body 5))=[(6,blkD Tryz.f69.body 6)]:=by kernel_rfl
theorem bd_inner{Pd:Sh->Prop}{g:Sh->B4×Bool}(ih:∀x,Pd x->BdOk x g)(sh:Nat->Sh)(add:Nat->Bool)(s:Sh)(hl:CtrB s.l)(w0:Dyn.Base Tryz.prog)(st:Dyn.St)(o:Dyn.Out)
  (h:bdLp g sh add s 3 st=some o):Dyn.BlockSound Tryz.prog w0 3 (.loop (unloopD (blkD Tryz.f69.body 3))) st o:=by
 simp only[bdLp,Option.some.injEq]at h
 subst h
 refine side_two λhS hi=>?_
 revert hS hi
 generalize intD (st.slots.getD 74 .junk)=i'
 generalize accB st=q
 intro hS hi
 obtain⟨i,rfl⟩:∃i:Nat,i'=(i:Int):=⟨i'.toNat,by omega⟩
 have hm:s.l.m i<=1000000000:=hl.2 i (by omega)
 refine fold_block (fuel:=3) (tabBd_ok ih) mo (lp:=bdLp g sh add s) (by rw[bd_b3];exact lpOk_cons (λs o h=>by cases h) lpOk_nil) (λj q=>bdT s q i j) (s.l.m i) (bdI s.l i) q (keepR 114 [0,1,2,3,4] [10] bdK1 []) (keepR_ent 114 _ _ _ _) (λj q=>bdBi s q i j) (λj q=>bd_Bi Pd g sh add s q i j) (λj hj=>?_) ?_ (hS▸keepA_ent 114 _ _ _ _ st)
 ·refine⟨λ_=>⟨⟨⟨by omega,by omega⟩,trivial⟩,rfl,?_⟩,λhf=>?_⟩
  ·rw[Wn1 hj hm];exact Dyn.Fits.refl _
  ·rw[decide_eq_false_iff_not]at hf;omega
 ·refine⟨λht=>?_,λ_=>⟨rfl,Dyn.Fits.refl _⟩⟩
  rw[decide_eq_true_eq]at ht;omega
theorem bd_outer{Pd:Sh->Prop}{g:Sh->B4×Bool}(ih:∀x,Pd x->BdOk x g)(sh:Nat->Sh)(add:Nat->Bool)(s:Sh)(hl:CtrB s.l)(w0:Dyn.Base Tryz.prog)(st:Dyn.St)(o:Dyn.Out)
  (h:bdLp g sh add s 1 st=some o):Dyn.BlockSound Tryz.prog w0 1 (.loop (unloopD (blkD Tryz.f69.body 1))) st o:=by
 simp only[bdLp,Option.some.injEq]at h
 subst h
 refine side_one λhS=>?_
 refine fold_block (fuel:=3) (tabBd_ok ih) mo (lp:=bdLp g sh add s) (by rw[bd_b1];exact lpOk_cons (λs o h=>by cases h) (lpOk_cons (bd_inner ih sh add s hl w0) (lpOk_cons (λs o h=>by cases h) lpOk_nil))) (λi q=>bdS s q i) s.l.n (bdO s.l) bdQ (keepR 114 [0,1,2,3,4] [] bdK0 []) (keepR_ent 114 _ _ _ _) (λi q=>bdBo s q i) (λi q=>bd_Bo Pd g sh add s q i) (λi hi=>?_) ?_ (hS▸keepA_ent 114 _ _ _ _ st)
 ·have hb:0<=(i:Int)/\(i:Int)<s.l.n:=⟨by omega,by omega⟩
  refine⟨λ_=>⟨⟨hb,trivial⟩,⟨rfl,hb,trivial⟩,rfl,?_⟩,λhf=>?_⟩
  ·rw[Wn1 hi hl.1];exact Dyn.Fits.refl _
  ·rw[decide_eq_false_iff_not]at hf;omega
 ·refine⟨λht=>?_,λ_=>⟨rfl,Dyn.Fits.refl _⟩⟩
  rw[decide_eq_true_eq]at ht;omega
theorem bd_parts{Pd:Sh->Prop}{g:Sh->B4×Bool}(ih:∀x,Pd x->BdOk x g)(k:Int)(a b c:P2)(r:Int)(l:Ctr)(n:Nat)(add:Nat->Bool)(sh:Nat->Sh)(hn:n<=1000000000)(hP:∀i,i<n->Pd (sh i))(w0:Dyn.Base Tryz.prog)(st:Dyn.St)(o:Dyn.Out)
  (h:bdLp g sh add (mkSh k a b c r l n add sh) 5 st=some o):Dyn.BlockSound Tryz.prog w0 5 (.loop (unloopD (blkD Tryz.f69.body 5))) st o:=by
 simp only[bdLp,Option.some.injEq]at h
 subst h
 refine side_one λhS=>?_
 revert hS
 generalize accB st=q0
 intro hS
 refine fold_block (fuel:=3) (tabBd_ok ih) mo (lp:=bdLp g sh add (mkSh k a b c r l n add sh)) (by rw[bd_b5];exact lpOk_cons (λs o h=>by cases h) lpOk_nil) (λi q=>bdU (mkSh k a b c r l n add sh) q i) n (bdP g sh add) q0 (keepR 114 [0,1,2,3,4] [] bdK2 []) (keepR_ent 114 _ _ _ _) (λi q=>bdBp Pd g sh add (mkSh k a b c r l n add sh) q i) (λi q=>bd_Bp Pd g k a b c r l n add sh q i) (λi hi=>?_) ?_ (hS▸keepA_ent 114 _ _ _ _ st)
 ·have hb:0<=(i:Int)/\(i:Int)<(n:Int):=⟨by omega,by omega⟩
  generalize foldN (bdP g sh add) q0 i=q
  unfold bdP
  refine⟨λ_=>⟨⟨hb,trivial⟩,λhx=>⟨rfl,?_⟩,λhx=>⟨⟨hP i hi,ctrSelf_ok _,trivial⟩,λhy=>⟨rfl,?_⟩,λhy=>⟨rfl,?_⟩⟩⟩,λhf=>?_⟩
  ·rw[Wn1 hi hn,hx];exact Dyn.Fits.refl _
  ·rw[Wn1 hi hn,hx,hy];exact Dyn.Fits.refl _
  ·rw[Wn1 hi hn,hx,hy];exact Dyn.Fits.refl _
  ·rw[decide_eq_false_iff_not]at hf
   exact absurd hb.2 hf
 ·refine⟨λht=>?_,λ_=>⟨rfl,Dyn.Fits.refl _⟩⟩
  rw[decide_eq_true_eq]at ht
  exact absurd (show(n:Int)<(n:Int)from ht) (by omega)
def bdR(s:Sh):Int:=W (s.r+rupF (W (W (W (s.a.x-s.c.x)*W (s.a.x-s.c.x))+W (W (s.a.y-s.c.y)*W (s.a.y-s.c.y)))))
def bdAll(g:Sh->B4×Bool)(sh:Nat->Sh)(add:Nat->Bool)(s:Sh):Bool×B4:=foldN (bdP g sh add) (foldN (bdO s.l) bdQ s.l.n) s.n
def bdOO(g:Sh->B4×Bool)(sh:Nat->Sh)(add:Nat->Bool)(s:Sh):Dyn.RO:=
 .ite (s.k==1) (.leaf (.tup [dvX (aroundF s.a s.a s.r),dvB true]))
 (.ite (bif s.k==3 then s.k==3 else s.k==4) (.leaf (.tup [dvX (aroundF s.a s.b s.r),dvB true]))
 (.ite (s.k==5) (.leaf (.tup [dvX (aroundF s.c s.c (bdR s)),dvB true]))
 (.side [bdS s bdQ 0=bdS s bdQ 0] (.side [bdU s (foldN (bdO s.l) bdQ s.l.n) 0=bdU s (foldN (bdO s.l) bdQ s.l.n) 0] (.leaf (.tup [dvX (bdAll g sh add s).2,dvB (bdAll g sh add s).1]))))))
theorem bd_OO(Pd:Sh->Prop)(g:Sh->B4×Bool)(sh:Nat->Sh)(add:Nat->Bool)(s:Sh):(Dyn.dfun Tryz.prog (tabBd Pd g) (bdLp g sh add s) 3 Tryz.f69 [dvS s]).ro Tryz.prog Tryz.f69.results=bdOO g sh add s:=by kernel_rfl
def boundsG(g:Sh->B4×Bool)(sh:Nat->Sh)(add:Nat->Bool)(s:Sh):B4×Bool:=
 bif s.k==1 then(aroundF s.a s.a s.r,true)else bif bif s.k==3 then s.k==3 else s.k==4 then(aroundF s.a s.b s.r,true)else bif s.k==5 then(aroundF s.c s.c (bdR s),true)else((bdAll g sh add s).2,(bdAll g sh add s).1)
theorem bd_sat(g:Sh->B4×Bool)(sh:Nat->Sh)(add:Nat->Bool)(s:Sh):(bdOO g sh add s).sat λr=>Dyn.RVLe r (.tup [dvX (boundsG g sh add s).1,dvB (boundsG g sh add s).2]):=by
 unfold boundsG
 refine⟨λh=>?_,λh=>⟨λh2=>?_,λh2=>⟨λh3=>?_,λh3=>⟨⟨rfl,trivial⟩,⟨rfl,trivial⟩,?_⟩⟩⟩⟩
 ·rw[h];exact⟨Dyn.DVLe.refl _,rfl,trivial⟩
 ·rw[h,h2];exact⟨Dyn.DVLe.refl _,rfl,trivial⟩
 ·rw[h,h2,h3];exact⟨Dyn.DVLe.refl _,rfl,trivial⟩
 ·rw[h,h2,h3];exact⟨Dyn.DVLe.refl _,Dyn.DVLe.refl _,trivial⟩
theorem bounds_lvl{Pd:Sh->Prop}{g:Sh->B4×Bool}(ih:∀x,Pd x->BdOk x g)(k:Int)(a b c:P2)(r:Int)(l:Ctr)(n:Nat)(add:Nat->Bool)(sh:Nat->Sh)(hl:CtrB l)(hn:n<=1000000000)(hP:∀i,i<n->Pd (sh i)) :
  Dyn.CallD Tryz.prog 69 [dvS (mkSh k a b c r l n add sh)] (.tup [dvX (boundsG g sh add (mkSh k a b c r l n add sh)).1,dvB (boundsG g sh add (mkSh k a b c r l n add sh)).2]):=
 Dyn.dcontract (lp:=bdLp g sh add (mkSh k a b c r l n add sh)) (fuel:=3) (tabBd_ok ih) mo Tryz.func69 (by kernel_rfl) (c:=bodyD Tryz.f69.body) (by kernel_rfl)
  (λw0=>by
   rw[bd_blocks]
   exact lpOk_cons (λs o h=>by cases h) (lpOk_cons (bd_outer ih sh add _ hl w0) (lpOk_cons (λs o h=>by cases h) (lpOk_cons (bd_inner ih sh add _ hl w0) (lpOk_cons (λs o h=>by cases h) (lpOk_cons (bd_parts ih k a b c r l n add sh hn hP w0) (lpOk_cons (λs o h=>by cases h) lpOk_nil)))))))
  (by kernel_rfl) (bd_OO Pd g sh add _) (bd_sat g sh add (mkSh k a b c r l n add sh))
def bndF:Shp->B4×Bool
 |.nil=>(⟨0,0,0,0⟩,false)
 |.mk k a b c r l n add sub=>
  bif k==1 then(aroundF a a r,true)else bif bif k==3 then k==3 else k==4 then(aroundF a b r,true)else bif k==5 then(aroundF c c (bdR ⟨k,a,b,c,r,l,n,noF⟩),true)else
  ((foldN (λi q=>bif !(add i)then q else bif (bndF (sub i)).2 then(true,tkF q.1 q.2 (bndF (sub i)).1)else q) (foldN (bdO l) bdQ l.n) n).2,(foldN (λi q=>bif !(add i)then q else bif (bndF (sub i)).2 then(true,tkF q.1 q.2 (bndF (sub i)).1)else q) (foldN (bdO l) bdQ l.n) n).1)
noncomputable def bndE(x:Sh):B4×Bool:=bndF (ofSh x)
theorem bndE_eq(s:Shp):bndE (toSh s)=bndF s:=by unfold bndE;rw[ofSh_toSh]
theorem bndF_lvl(k:Int)(a b c:P2)(r:Int)(l:Ctr)(n:Nat)(add:Nat->Bool)(sub:Nat->Shp):bndF (.mk k a b c r l n add sub)=boundsG bndE (λi=>toSh (sub i)) add (mkSh k a b c r l n add (λi=>toSh (sub i))):=by
 unfold boundsG bdAll bdP
 simp only[bndE_eq]
 rfl
theorem bnd_ok:∀s:Shp,ShB s->BdOk (toSh s) bndE:=by
 intro s
 induction s with
 |nil=>intro h;exact h.elim
 |mk k a b c r l n add sub ih=>
  intro h
  unfold BdOk
  rw[bndE_eq,bndF_lvl]
  exact bounds_lvl (Pd:=λx=>∃i,i<n/\x=toSh (sub i)) (λx hx=>by
   obtain⟨i,hi,rfl⟩:=hx
   exact ih i (h.2.2 i hi)) k a b c r l n add (λi=>toSh (sub i)) h.1 h.2.1 (λi hi=>⟨i,hi,rfl⟩)
theorem bnd_all:∀x,PdS x->BdOk x bndE:=λx hx=>by
 have k:=bnd_ok _ hx.1
 unfold BdOk at k
 rw[show bndE (toSh (ofSh x))=bndE x by unfold bndE;rw[ofSh_toSh]]at k
 exact CallD_le (args:=[dvS (toSh (ofSh x))]) ⟨SLe.dv hx.2,trivial⟩ k
noncomputable def figBnd(x:Sh):B4×Bool:=bif okE x then bndE x else(⟨0,0,0,0⟩,false)
noncomputable def tdBb:List Dyn.EntryD:=[(17,en1D (qAnd qS PdS) λx=>rB (okE x)),(69,en1D (qAnd qS PdS) λx=>.tup [dvX (bndE x).1,dvB (bndE x).2])]
noncomputable def tabBb:Dyn.Tabs:=Dyn.tabs tbF tdBb noD dtyS
theorem tabBb_ok:Dyn.TabsOk Tryz.prog tabBb:=Dyn.tabs_ok tbF_ok (List.forall_mem_cons.2 ⟨en1D_ok (qAnd_ok qS_ok) λx h=>figOk_ok x h.1,List.forall_mem_cons.2 ⟨en1D_ok (qAnd_ok qS_ok) λx h=>bnd_all x h.1,λ_ h=>by cases h⟩⟩)
noncomputable def bbO(x:Sh):Dyn.RO:=.side [PdS x,ctrSelf x.l] (.ite (!(okE x)) (.leaf (.tup [dvX ⟨0,0,0,0⟩,dvB false])) (.side [PdS x,ctrSelf x.l] (.leaf (.tup [dvX (bndE x).1,dvB (bndE x).2]))))
theorem bb_O(x:Sh):(Dyn.dfun Tryz.prog tabBb Dyn.noLp 3 Tryz.f54 [dvS x]).ro Tryz.prog Tryz.f54.results=bbO x:=by kernel_rfl
theorem figBnd_ok(x:Sh)(h:PdS x):Dyn.CallD Tryz.prog 54 [dvS x] (.tup [dvX (figBnd x).1,dvB (figBnd x).2]):=
 Dyn.dcontract (lp:=Dyn.noLp) (fuel:=3) tabBb_ok mo Tryz.func54 (by kernel_rfl) (c:=bodyD Tryz.f54.body) (by kernel_rfl) (λw0=>Dyn.noLp_ok _ w0) (by kernel_rfl) (bb_O x) (by
  unfold figBnd
  refine⟨⟨h,ctrSelf_ok _,trivial⟩,λh1=>?_,λh1=>⟨⟨h,ctrSelf_ok _,trivial⟩,?_⟩⟩
  ·rw[show okE x=false by simpa using h1];exact⟨Dyn.DVLe.refl _,rfl,trivial⟩
  ·rw[show okE x=true by simpa using h1];exact⟨Dyn.DVLe.refl _,Dyn.DVLe.refl _,trivial⟩)
def okS(s:Shp):Bool:=(validF s 0 1000).1
theorem okE_S(s:Shp):okE (toSh s)=okS s:=by unfold okE okS;rw[vE_eq]
def figClassC(s:Shp)(b:B4):Int:=bif !(okS s)then 0 else classF s b
theorem figClassS_C(s:Shp)(b:B4):figClassS s b=figClassC s b:=by unfold figClassS figClassC;rw[okE_S]
def pClassC(s:Shp)(b:B4):Int:=foldN (λi acc=>foldF acc (figClassC (suO s i) b) (adO s i)) 0 (nuO s)
theorem pClass_C(s:Shp)(b:B4):pClass s b=pClassC s b:=by
 unfold pClass pClassC
 simp only[figClassS_C]
def figBndC(s:Shp):B4×Bool:=bif okS s then bndF s else(⟨0,0,0,0⟩,false)
theorem figBnd_C(s:Shp):figBnd (toSh s)=figBndC s:=by unfold figBnd figBndC;rw[okE_S,bndE_eq]
def kN(keep:Nat->Bool):Nat->Nat
 |0=>0
 |n+1=>bif keep n then kN keep n+1 else kN keep n
def kIx(keep:Nat->Bool):Nat->Nat->Nat
 |0,_=>0
 |n+1,j=>bif keep n&&Nat.beq (kN keep n) j then n else kIx keep n j
theorem kN_le(keep:Nat->Bool):∀n,kN keep n<=n
 |0=>Nat.le_refl _
 |n+1=>by
  have:=kN_le keep n
  unfold kN
  cases keep n
  ·show kN keep n<=n+1;omega
  ·show kN keep n+1<=n+1;omega
theorem kN_mono(keep:Nat->Bool){i:Nat}:∀{n:Nat},i<=n->kN keep i<=kN keep n
 |0,h=>by
        obtain rfl:i=0:=by omega
        exact Nat.le_refl _
 |n+1,h=>by
  by_cases e:i=n+1
  ·subst e;exact Nat.le_refl _
  ·have:=kN_mono keep (i:=i) (n:=n) (by omega)
   show kN keep i<=(bif keep n then kN keep n+1 else kN keep n)
   cases keep n
   ·exact this
   ·show kN keep i<=kN keep n+1;omega
theorem kN_step(keep:Nat->Bool){i:Nat}(h:keep i=true):kN keep (i+1)=kN keep i+1:=by
 show(bif keep i then kN keep i+1 else kN keep i)=_
 rw[h];rfl
theorem kN_skip(keep:Nat->Bool){i:Nat}(h:keep i=false):kN keep (i+1)=kN keep i:=by
 show(bif keep i then kN keep i+1 else kN keep i)=_
 rw[h];rfl
theorem kIx_at(keep:Nat->Bool){i:Nat}(h:keep i=true):∀{n:Nat},i<n->kIx keep n (kN keep i)=i
 |0,hn=>absurd hn (Nat.not_lt_zero i)
 |n+1,hn=>by
  show(bif keep n&&Nat.beq (kN keep n) (kN keep i)then n else kIx keep n (kN keep i))=i
  by_cases e:i=n
  ·subst e
   rw[h,Nat.beq_refl];rfl
  ·have k1:=kN_mono keep (i:=i+1) (n:=n) (by omega)
   rw[kN_step keep h]at k1
   have:Nat.beq (kN keep n) (kN keep i)=false:=by
    cases q:Nat.beq (kN keep n) (kN keep i)
    ·rfl
    ·have:=Nat.eq_of_beq_eq_true q;omega
   rw[this,Bool.and_false]
   exact kIx_at keep h (by omega)
theorem kIx_lt(keep:Nat->Bool){j:Nat}:∀{n:Nat},j<kN keep n->kIx keep n j<n/\keep (kIx keep n j)=true
 |0,h=>absurd h (Nat.not_lt_zero j)
 |n+1,h=>by
  show(bif keep n&&Nat.beq (kN keep n) j then n else kIx keep n j)<n+1/\keep (bif keep n&&Nat.beq (kN keep n) j then n else kIx keep n j)=true
  cases hk:keep n
  ·rw[kN_skip keep hk]at h
   have:=kIx_lt keep (j:=j) (n:=n) h
   exact⟨by show kIx keep n j<n+1;omega,this.2⟩
  ·rw[kN_step keep hk]at h
   cases q:Nat.beq (kN keep n) j
   ·have ne:kN keep n≠j:=λe=>by rw[e,Nat.beq_refl]at q;cases q
    have:=kIx_lt keep (j:=j) (n:=n) (by omega)
    exact⟨by show kIx keep n j<n+1;omega,this.2⟩
   ·exact⟨by show n<n+1;omega,hk⟩
def filL(keep:Nat->Bool)(s:Shp):Shp:=lForm (kN keep (nuO s)) (λj=>adO s (kIx keep (nuO s) j)) (λj=>suO s (kIx keep (nuO s) j))
theorem fil_fold{α:Type}(keep:Nat->Bool)(g:Nat->α->α)(a:α)(n:Nat):∀m,m<=n->foldN (λj acc=>g (kIx keep n j) acc) a (kN keep m)=foldN (λi acc=>bif keep i then g i acc else acc) a m
 |0,_=>rfl
 |m+1,h=>by
  have ih:=fil_fold keep g a n m (by omega)
  cases hk:keep m
  ·rw[kN_skip keep hk,ih]
   show _=(bif keep m then _ else _)
   rw[hk];rfl
  ·rw[kN_step keep hk]
   show g (kIx keep n (kN keep m)) (foldN _ a (kN keep m))=(bif keep m then _ else _)
   rw[kIx_at keep hk (show m<n by omega),ih,hk];rfl
theorem pClass_fil(keep:Nat->Bool)(s:Shp)(b:B4):pClassC (filL keep s) b=foldN (λi acc=>bif keep i then foldF acc (figClassC (suO s i) b) (adO s i)else acc) 0 (nuO s):=
 fil_fold keep (λi acc=>foldF acc (figClassC (suO s i) b) (adO s i)) 0 (nuO s) (nuO s) (Nat.le_refl _)
def hbF:Shp->Bool
 |.nil=>false
 |.mk k _ _ _ _ _ n _ sub=>bif k==4 then true else !((runN (λi (_:Unit)=>(!(hbF (sub i)),())) () n).1)
def rchK(s:Shp)(i:Nat):Bool:=(figBndC (suO s i)).2
def reachF(s:Shp):Shp:=filL (rchK s) s
def nearK(s:Shp)(b:B4)(i:Nat):Bool:=bif hbF (suO s i)then true else !(apart (figBndC (suO s i)).1 b)
def nearG(s:Shp)(b:B4):Shp:=filL (nearK s b) s
structure ExR where
 lo:Int
 hi:Int
 e:Int
 a:Int
def exNo(e a:Int):ExR:=⟨0,0,e,a⟩
def spB(b:B4)(i:Nat):B4:=match i with
 |0=>⟨spl b 0 b.x0,spl b 0 b.y0,spl b 0 (midX b),spl b 0 (midY b)⟩
 |1=>⟨spl b 0 (midX b),spl b 0 b.y0,spl b 0 b.x1,spl b 0 (midY b)⟩
 |2=>⟨spl b 0 b.x0,spl b 0 (midY b),spl b 0 (midX b),spl b 0 b.y1⟩
 |_=>⟨spl b 0 (midX b),spl b 0 (midY b),spl b 0 b.x1,spl b 0 b.y1⟩
def exQ(f:B4->Int->ExR)(b:B4)(a:Int):ExR:=
 bif (f (spB b 0) a).e != 0 then exNo (f (spB b 0) a).e (f (spB b 0) a).a else
 bif (f (spB b 1) (f (spB b 0) a).a).e != 0 then exNo (f (spB b 1) (f (spB b 0) a).a).e (f (spB b 1) (f (spB b 0) a).a).a else
 bif (f (spB b 2) (f (spB b 1) (f (spB b 0) a).a).a).e != 0 then exNo (f (spB b 2) (f (spB b 1) (f (spB b 0) a).a).a).e (f (spB b 2) (f (spB b 1) (f (spB b 0) a).a).a).a else
 bif (f (spB b 3) (f (spB b 2) (f (spB b 1) (f (spB b 0) a).a).a).a).e != 0 then exNo (f (spB b 3) (f (spB b 2) (f (spB b 1) (f (spB b 0) a).a).a).a).e (f (spB b 3) (f (spB b 2) (f (spB b 1) (f (spB b 0) a).a).a).a).a else
 ⟨W (W (W (W (0+(f (spB b 0) a).lo)+(f (spB b 1) (f (spB b 0) a).a).lo)+(f (spB b 2) (f (spB b 1) (f (spB b 0) a).a).a).lo)+(f (spB b 3) (f (spB b 2) (f (spB b 1) (f (spB b 0) a).a).a).a).lo),
  W (W (W (W (0+(f (spB b 0) a).hi)+(f (spB b 1) (f (spB b 0) a).a).hi)+(f (spB b 2) (f (spB b 1) (f (spB b 0) a).a).a).hi)+(f (spB b 3) (f (spB b 2) (f (spB b 1) (f (spB b 0) a).a).a).a).hi),
  0,(f (spB b 3) (f (spB b 2) (f (spB b 1) (f (spB b 0) a).a).a).a).a⟩
def cellsN(d:Nat):Int:=((4 ^ d:Nat):Int)
def exT(most c:Int)(cells:Int)(m:Int->ExR)(a:Int):ExR:=
 bif !(decide (W (a+1)<=most))then exNo 6 (W (a+1))else
 bif c==0 then exNo 0 (W (a+1))else bif c==2 then⟨cells,cells,0,W (a+1)⟩else m (W (a+1))
def exF(most:Int):Nat->Shp->B4->Int->ExR
 |0,s,b,a=>exT most (pClassC s b) (cellsN 0) (λa=>⟨0,1,0,a⟩) a
 |d+1,s,b,a=>exT most (pClassC s b) (cellsN (d+1)) (exQ (λq a=>exF most d (nearG s q) q a) b) a
def FinC(P:P2->Prop)(l:Ctr):Prop:=l.n<=4/\∀i,i<l.n->l.m i<=12/\∀k,k<l.m i->P (l.p i k)
def Fine(P:P2->Prop):Shp->Int->Prop
 |.nil,_=>False
 |.mk k a b c r l n _ sub,d=>
  (k=1/\b=ze/\c=ze/\l=zeC/\n=0/\P a/\widF r=true)\/
  (k=3/\c=ze/\l=zeC/\n=0/\P a/\P b/\widF r=true)\/
  (k=4/\c=ze/\l=zeC/\n=0/\P a/\P b/\widF r=true/\a≠b)\/
  (k=5/\l=zeC/\n=0/\P a/\P b/\P c/\widF r=true/\okI c a b)\/
  (k=2/\a=ze/\b=ze/\c=ze/\r=0/\n=0/\FinC P l)\/
  (k=6/\a=ze/\b=ze/\c=ze/\r=0/\l=zeC/\d<=5/\((n:Int)<=4-d\/n<=1)/\∀i,i<n->Fine P (sub i) (d+1))
def Nd(d:Int):Int:=if d>=6 then 1 else if d=5 then 2 else if d=4 then 3 else if d=3 then 4 else if d=2 then 9 else if d=1 then 28 else 113
theorem Nd_one(d:Int):1<=Nd d/\Nd d<=113:=by unfold Nd;repeat' split<;>first|omega|(constructor<;>omega)
theorem Nd_step{d m:Int}(h0:0<=d)(h5:d<=5)(h1:0<=m)(h2:m<=4-d\/m<=1):1+m*Nd (d+1)<=Nd d:=by
 have:d=0\/d=1\/d=2\/d=3\/d=4\/d=5:=by omega
 rcases this with rfl|rfl|rfl|rfl|rfl|rfl
 ·rw[show Nd (0+1)=28 by decide,show Nd 0=113 by decide];omega
 ·rw[show Nd (1+1)=9 by decide,show Nd 1=28 by decide];omega
 ·rw[show Nd (2+1)=4 by decide,show Nd 2=9 by decide];omega
 ·rw[show Nd (3+1)=3 by decide,show Nd 3=4 by decide];omega
 ·rw[show Nd (4+1)=2 by decide,show Nd 4=3 by decide];omega
 ·rw[show Nd (5+1)=1 by decide,show Nd 5=2 by decide];omega
theorem runN_inv{α:Type}{g:Nat->α->Bool×α}(I:Nat->α->Prop){a:α}(h0:I 0 a):∀n,(∀i x,i<n->I i x->(g i x).1=true/\I (i+1) (g i x).2)->(runN g a n).1=true/\I n (runN g a n).2
 |0,_=>⟨rfl,h0⟩
 |n+1,h=>by
  have k:=runN_inv I h0 n (λi x hi=>h i x (by omega))
  have e:runN g a n=(true,(runN g a n).2):=Prod.ext k.1 rfl
  rw[runN_go e]
  exact h n _ (by omega) k.2
theorem ctg_fine{P:P2->Prop}(hP:∀p,P p->nearF p=true){l:Ctr}(h:FinC P l):contoursF l=true:=by
 unfold contoursF
 refine(runN_inv (λi (left:Int)=>1000-12*(i:Int)<=left/\left<=1000) ⟨by omega,by omega⟩ l.n (λi x hi hx=>?_)).1
 have hm:=h.2 i hi
 have hn:=h.1
 unfold ctgO
 rw[decide_eq_false (show ¬(l.m i:Int)>x by omega)]
 refine⟨?_,?_⟩
 ·show(runN (ctgI l i) () (l.m i)).1=true
  exact(runN_inv (λ_ _=>True) trivial (l.m i) (λk _ hk _=>⟨hP _ (hm.2 k hk),trivial⟩)).1
 ·show 1000-12*((i+1:Nat):Int)<=W (x-l.m i)/\W (x-l.m i)<=1000
  rw[W_id (by omega) (by omega)];omega
theorem near_PR{p:P2}(h:nearF p=true):PR p:=by
 unfold nearF at h
 rw[andB_eq,andB_eq,andB_eq,Bool.and_eq_true,Bool.and_eq_true,Bool.and_eq_true,decide_eq_true_eq,decide_eq_true_eq,decide_eq_true_eq,decide_eq_true_eq]at h
 exact⟨⟨by omega,by omega⟩,⟨by omega,by omega⟩⟩
theorem eqP_iff{a b:P2}:(bif a.x==b.x then bif a.y==b.y then true else false else false)=true↔a=b:=by
 obtain⟨x,y⟩:=a
 obtain⟨x',y'⟩:=b
 by_cases h:x=x'
 ·by_cases k:y=y'
  ·subst h;subst k;simp
  ·simp[h,k]
 ·simp[h]
theorem bare_1(a:P2)(r:Int)(add:Nat->Bool)(sub:Nat->Shp):bareF (toSh (.mk 1 a ze ze r zeC 0 add sub))=true:=by kernel_rfl
theorem bare_3(a b:P2)(r:Int)(add:Nat->Bool)(sub:Nat->Shp):bareF (toSh (.mk 3 a b ze r zeC 0 add sub))=true:=by kernel_rfl
theorem bare_4(a b:P2)(r:Int)(add:Nat->Bool)(sub:Nat->Shp):bareF (toSh (.mk 4 a b ze r zeC 0 add sub))=true:=by kernel_rfl
theorem bare_5(a b c:P2)(r:Int)(add:Nat->Bool)(sub:Nat->Shp):bareF (toSh (.mk 5 a b c r zeC 0 add sub))=true:=by kernel_rfl
theorem bare_2(l:Ctr)(add:Nat->Bool)(sub:Nat->Shp):bareF (toSh (.mk 2 ze ze ze 0 l 0 add sub))=true:=by kernel_rfl
theorem bare_6(n:Nat)(add:Nat->Bool)(sub:Nat->Shp):bareF (toSh (.mk 6 ze ze ze 0 zeC n add sub))=true:=by kernel_rfl
theorem fine_valid{P:P2->Prop}(hP:∀p,P p->nearF p=true):∀(s:Shp) (d forms left:Int),Fine P s d->0<=d->0<=forms->forms<=d->Nd d<=left->left<=1000->
  (validF s forms left).1=true/\left-Nd d<=(validF s forms left).2/\(validF s forms left).2<=left:=by
 intro s
 induction s with
 |nil=>intro d forms left h;exact h.elim
 |mk k a b c r l n add sub ih=>
  intro d forms left h h0 hf hfd hl h1
  have nd:=Nd_one d
  have nn:=Nd_one (d+1)
  have e1:decide (left<1)=false:=decide_eq_false (by omega)
  have e2:W (left-1)=left-1:=W_id (by omega) (by omega)
  have fin:∀v:Bool×Int,v=(true,left-1)->v.1=true/\left-Nd d<=v.2/\v.2<=left:=λv hv=>by subst hv;exact⟨rfl,by dsimp only;omega,by dsimp only;omega⟩
  rcases h with⟨rfl,rfl,rfl,rfl,rfl,ha,hr⟩|⟨rfl,rfl,rfl,rfl,ha,hb,hr⟩|⟨rfl,rfl,rfl,rfl,ha,hb,hr,hn⟩|⟨rfl,rfl,rfl,ha,hb,hc,hr,ho⟩|⟨rfl,rfl,rfl,rfl,rfl,rfl,hc⟩|⟨rfl,rfl,rfl,rfl,rfl,rfl,h5,hm,hs⟩
  ·refine fin _ ?_
   simp only[validF]
   rw[e1,bare_1,e2,hP a ha,hr];rfl
  ·refine fin _ ?_
   simp only[validF]
   rw[e1,bare_3,e2,hP a ha,hP b hb,hr];rfl
  ·refine fin _ ?_
   simp only[validF]
   rw[e1,bare_4,e2,hP a ha,hP b hb,hr,show(bif a.x==b.x then bif a.y==b.y then true else false else false)=false by rw[Bool.eq_false_iff];exact λq=>hn (eqP_iff.1 q)];rfl
  ·refine fin _ ?_
   simp only[validF]
   rw[e1,bare_5,e2,hP a ha,hP b hb,hP c hc,hr,(ringOk_eq (near_PR (hP c hc)) (near_PR (hP a ha)) (near_PR (hP b hb))).2 ho];rfl
  ·refine fin _ ?_
   simp only[validF]
   rw[e1,bare_2,e2,ctg_fine hP hc];rfl
  ·have st:=Nd_step h0 h5 (show 0<=(n:Int)by omega) (by omega)
   have key:=runN_inv (g:=λi lf=>validF (sub i) (W (forms+1)) lf) (a:=left-1) (λi (lf:Int)=>left-1-(i:Int)*Nd (d+1)<=lf/\lf<=left-1) ⟨by omega,by omega⟩ n (λi x hi hx=>by
    have a1:((i+1:Nat):Int)*Nd (d+1)<=(n:Int)*Nd (d+1):=Int.mul_le_mul_of_nonneg_right (by omega) (by omega)
    have a2:((i+1:Nat):Int)*Nd (d+1)=(i:Int)*Nd (d+1)+Nd (d+1):=by rw[show((i+1:Nat):Int)=(i:Int)+1 by omega,Int.add_mul,Int.one_mul]
    have w:W (forms+1)=forms+1:=W_id (by omega) (by omega)
    have q:=ih i (d+1) (forms+1) x (hs i hi) (by omega) (by omega) (by omega) (by omega) (by omega)
    rw[w]
    refine⟨q.1,?_,?_⟩
    ·omega
    ·omega)
   have ev:validF (.mk 6 ze ze ze 0 zeC n add sub) forms left=runN (λi lf=>validF (sub i) (W (forms+1)) lf) (left-1) n:=by
    simp only[validF]
    rw[e1,bare_6,e2,decide_eq_false (show ¬forms>=8 by omega)];rfl
   rw[ev]
   exact⟨key.1,by omega,by omega⟩
def PB(B:Int)(p:P2):Prop:=(-B<=p.x/\p.x<=B)/\(-B<=p.y/\p.y<=B)
theorem PB_near{B:Int}(h:B<=536870912){p:P2}(k:PB B p):nearF p=true:=by
 unfold nearF
 rw[decide_eq_true (show p.x>=-536870912 by have:=k.1;omega),decide_eq_true (show p.x<=536870912 by have:=k.1;omega),decide_eq_true (show p.y>=-536870912 by have:=k.2;omega),decide_eq_true (show p.y<=536870912 by have:=k.2;omega)]
 rfl
def tmX(sm:Bool):Int:=bif sm then 40 else 536870912
theorem at_PB(p:P2)(sm:Bool):PB (tmX sm) (atP p sm):=by
 cases sm
 ·exact lPt_r p
 ·have h:=lClose_r p (n:=20) (by decide) (by decide)
  exact⟨⟨by show(-40:Int)<=(lClose p 20).x;omega,by show(lClose p 20).x<=(40:Int);omega⟩,⟨by show(-40:Int)<=(lClose p 20).y;omega,by show(lClose p 20).y<=(40:Int);omega⟩⟩
theorem at_PB0(p:P2)(sm:Bool):(-536870912<=(atP p sm).x/\(atP p sm).x<=536870912):=by
 have h:=at_PB p sm
 cases sm
 ·exact h.1
 ·have:=h.1;unfold tmX at this;simp only[cond_true]at this;omega
theorem tmB_ok(s:Sh)(sm:Bool):PB (tmX sm) (tmB s sm)/\atP s.a sm≠tmB s sm:=by
 have hb:=at_PB s.b sm
 have h0:=at_PB0 s.b sm
 have hx:40<=tmX sm:=by cases sm<;>decide
 unfold tmB
 cases e:eqP (atP s.a sm) (atP s.b sm)
 ·refine⟨hb,λq=>?_⟩
  rw[Bool.eq_false_iff]at e
  exact e (eqP_iff.2 q)
 ·have ea:atP s.a sm=atP s.b sm:=eqP_iff.1 e
  cases g:decide ((atP s.b sm).x>0)
  ·rw[decide_eq_false_iff_not]at g
   have w:W ((atP s.b sm).x+1)=(atP s.b sm).x+1:=W_id (by omega) (by omega)
   refine⟨⟨⟨by show _<=W ((atP s.b sm).x+1);rw[w];have:=hb.1;omega,by show W ((atP s.b sm).x+1)<=_;rw[w];omega⟩,hb.2⟩,λq=>?_⟩
   have:(atP s.a sm).x=W ((atP s.b sm).x+1):=congrArg P2.x q
   rw[ea,w]at this;omega
  ·rw[decide_eq_true_eq]at g
   have w:W ((atP s.b sm).x-1)=(atP s.b sm).x-1:=W_id (by omega) (by omega)
   refine⟨⟨⟨by show _<=W ((atP s.b sm).x-1);rw[w];omega,by show W ((atP s.b sm).x-1)<=_;rw[w];have:=hb.1;omega⟩,hb.2⟩,λq=>?_⟩
   have:(atP s.a sm).x=W ((atP s.b sm).x-1):=congrArg P2.x q
   rw[ea,w]at this;omega
theorem tmR_ok(s:Sh)(sm:Bool):widF (tmR s sm)=true:=by
 have h:=lR_bd s.r
 unfold widF
 cases sm
 ·show andB (decide (lR s.r>=1)) (decide (lR s.r<=536870912))=true
  rw[decide_eq_true (show lR s.r>=1 by omega),decide_eq_true h.2];rfl
 ·have h1:=Int.tmod_nonneg (a:=lR s.r) 15 (by omega)
  have h2:=(tmod_bd (lR s.r) (n:=15) (by decide)).2
  show andB (decide (W ((lR s.r).tmod 15+1)>=1)) (decide (W ((lR s.r).tmod 15+1)<=536870912))=true
  rw[W_id (by omega) (by omega),decide_eq_true (show(lR s.r).tmod 15+1>=1 by omega),decide_eq_true (show(lR s.r).tmod 15+1<=536870912 by omega)];rfl
theorem arcC_PB(c:P2)(sm:Bool):PB (tmX sm) (arcC c sm):=by
 cases sm
 ·have h:=arcC_r c false
  exact⟨⟨by show(-536870912:Int)<=_;omega,by show _<=(536870912:Int);omega⟩,⟨by show(-536870912:Int)<=_;omega,by show _<=(536870912:Int);omega⟩⟩
 ·have h:=arcC_s c
  exact⟨⟨by show(-40:Int)<=_;omega,by show _<=(40:Int);omega⟩,⟨by show(-40:Int)<=_;omega,by show _<=(40:Int);omega⟩⟩
theorem arcAt_PB(c:P2)(f s:Int)(sm:Bool):PB (tmX sm) (arcAt c f s sm):=by
 rw[arcAt_eq]
 have h:=circ_ok f
 cases sm
 ·have hc:=arcC_r c false
  have kk:=arcK_bd s false
  have x:=mul_bd (A:=20000000) (B:=5) (x:=arcK s false) (y:=(circ f).x) (by omega) (by omega) h.x.1 h.x.2
  have y:=mul_bd (A:=20000000) (B:=5) (x:=arcK s false) (y:=(circ f).y) (by omega) (by omega) h.y.1 h.y.2
  exact⟨⟨by show(-536870912:Int)<=(arcC c false).x+_;omega,by show(arcC c false).x+_<=(536870912:Int);omega⟩,⟨by show(-536870912:Int)<=(arcC c false).y+_;omega,by show(arcC c false).y+_<=(536870912:Int);omega⟩⟩
 ·have hc:=arcC_s c
  have kk:=arcK1_bd s
  have x:=mul_bd (A:=4) (B:=5) (x:=arcK1 s) (y:=(circ f).x) (by omega) (by omega) h.x.1 h.x.2
  have y:=mul_bd (A:=4) (B:=5) (x:=arcK1 s) (y:=(circ f).y) (by omega) (by omega) h.y.1 h.y.2
  exact⟨⟨by show(-40:Int)<=(arcC c true).x+arcK1 s*(circ f).x;omega,by show(arcC c true).x+arcK1 s*(circ f).x<=(40:Int);omega⟩,⟨by show(-40:Int)<=(arcC c true).y+arcK1 s*(circ f).y;omega,by show(arcC c true).y+arcK1 s*(circ f).y<=(40:Int);omega⟩⟩
theorem arc_okJ(c:P2)(f t s:Int)(sm:Bool):okI (arcC c sm) (arcAt c f s sm) (arcAt c t s sm):=by
 have kk:=arcK_bd s sm
 have a:=(onC_r (arcC_r c sm) kk (circ_ok f)).2
 have b:=(onC_r (arcC_r c sm) kk (circ_ok t)).2
 rw[arcAt_eq,arcAt_eq]
 have p:1<=arcK s sm*arcK s sm:=Int.le_trans (show(1:Int)<=1*1 by decide) (Int.mul_le_mul kk.1 kk.1 (by decide) (by omega))
 exact⟨by rw[a];omega,by rw[a,b]⟩
theorem tameC_Fin(l:Ctr)(sm:Bool):FinC (PB (tmX sm)) (tameC l sm):=by
 refine⟨by show min l.n 4<=4;omega,λi _=>⟨by show min (l.m i) 12<=12;omega,λk _=>?_⟩⟩
 cases sm
 ·exact lPt_r (l.p i k)
 ·have h:=lClose_r (lPt (l.p i k)) (n:=20) (by decide) (by decide)
  exact⟨⟨by show(-40:Int)<=(lClose (lPt (l.p i k)) 20).x;omega,by show(lClose (lPt (l.p i k)) 20).x<=(40:Int);omega⟩,⟨by show(-40:Int)<=(lClose (lPt (l.p i k)) 20).y;omega,by show(lClose (lPt (l.p i k)) 20).y<=(40:Int);omega⟩⟩
theorem tmK0_bd(s:Sh):1<=tmK0 s/\tmK0 s<=6:=by
 have a:=tmod_bd s.k (n:=6) (by decide)
 have w:W (s.k.tmod 6+6)=s.k.tmod 6+6:=W_id (by omega) (by omega)
 have b:=Int.tmod_nonneg (a:=s.k.tmod 6+6) 6 (by omega)
 have c:=(tmod_bd (s.k.tmod 6+6) (n:=6) (by decide)).2
 unfold tmK0
 rw[w,W_id (by omega) (by omega)];omega
theorem tmKk_bd(s:Sh)(d:Int):(1<=tmKk s d/\tmKk s d<=6)/\(tmKk s d=6->d<=5):=by
 have a:=tmK0_bd s
 unfold tmKk
 by_cases h:d>5
 ·rw[decide_eq_true h]
  cases g:tmK0 s==6
  ·refine⟨a,λe=>?_⟩
   have e:tmK0 s=6:=e
   rw[e]at g;cases g
  ·exact⟨by show(1:Int)<=1/\(1:Int)<=6;omega,λe=>by cases e⟩
 ·rw[decide_eq_false h]
  exact⟨a,λ_=>by omega⟩
theorem tame_fine(sm:Bool):∀(s:Shp) (d:Int),ShB s->0<=d->d<=6->Fine (PB (tmX sm)) (tameS s sm d) d:=by
 intro s
 induction s with
 |nil=>intro d h;exact h.elim
 |mk k a b c r l n add sub ih=>
  intro d h h0 h6
  have kk:=tmKk_bd ⟨k,a,b,c,r,l,n,noF⟩ d
  have kb:=tmB_ok ⟨k,a,b,c,r,l,n,noF⟩ sm
  have kr:=tmR_ok ⟨k,a,b,c,r,l,n,noF⟩ sm
  simp only[tameS]
  generalize tmKk ⟨k,a,b,c,r,l,n,noF⟩ d=K at *
  have:K=1\/K=2\/K=3\/K=4\/K=5\/K=6:=by omega
  rcases this with rfl|rfl|rfl|rfl|rfl|rfl
  ·exact .inl ⟨rfl,rfl,rfl,rfl,rfl,at_PB a sm,kr⟩
  ·exact .inr (.inr (.inr (.inr (.inl ⟨rfl,rfl,rfl,rfl,rfl,rfl,tameC_Fin l sm⟩))))
  ·exact .inr (.inl ⟨rfl,rfl,rfl,rfl,at_PB a sm,kb.1,kr⟩)
  ·exact .inr (.inr (.inl ⟨rfl,rfl,rfl,rfl,at_PB a sm,kb.1,kr,kb.2⟩))
  ·exact .inr (.inr (.inr (.inl ⟨rfl,rfl,rfl,arcAt_PB _ _ _ _,arcAt_PB _ _ _ _,arcC_PB _ _,kr,arc_okJ _ _ _ _ _⟩)))
  ·have h5:=kk.2 rfl
   have w:W (4-d)=4-d:=W_id (by omega) (by omega)
   have wd:W (d+1)=d+1:=W_id (by omega) (by omega)
   have hn:tmN ⟨k,a,b,c,r,l,n,noF⟩ d=min n (imax (4-d) 1).toNat:=by unfold tmN;rw[w]
   refine .inr (.inr (.inr (.inr (.inr ⟨rfl,rfl,rfl,rfl,rfl,rfl,h5,?_,λi hi=>?_⟩))))
   ·rw[hn];unfold imax;split<;>omega
   ·rw[wd]
    exact ih i (d+1) (h.2.2 i (by rw[hn]at hi;omega)) (by omega) (by omega)
theorem P2.ext'{p q:P2}(h:p.x=q.x)(k:p.y=q.y):p=q:=by cases p;cases q;cases h;cases k;rfl
theorem fine_B{P:P2->Prop}:∀(s:Shp) (d:Int),Fine P s d->0<=d->ShB s:=by
 intro s
 induction s with
 |nil=>intro d h;exact h.elim
 |mk k a b' c r l n add sub ih=>
  intro d h h0
  have z:∀i,i<0->ShB (sub i):=λi hi=>absurd hi (Nat.not_lt_zero i)
  rcases h with⟨rfl,rfl,rfl,rfl,rfl,ha,hr⟩|⟨rfl,rfl,rfl,rfl,ha,hb,hr⟩|⟨rfl,rfl,rfl,rfl,ha,hb,hr,hn⟩|⟨rfl,rfl,rfl,ha,hb,hc,hr,ho⟩|⟨rfl,rfl,rfl,rfl,rfl,rfl,hc⟩|⟨rfl,rfl,rfl,rfl,rfl,rfl,h5,hm,hs⟩
  ·exact⟨CtrB_ze,by decide,z⟩
  ·exact⟨CtrB_ze,by decide,z⟩
  ·exact⟨CtrB_ze,by decide,z⟩
  ·exact⟨CtrB_ze,by decide,z⟩
  ·exact⟨⟨by have:=hc.1;omega,λi hi=>by have:=(hc.2 i hi).1;omega⟩,by decide,z⟩
  ·exact⟨CtrB_ze,by omega,λi hi=>ih i (d+1) (hs i hi) (by omega)⟩
def aroI(p q:P2)(r:Int):B4:=⟨imin p.x q.x-r,imin p.y q.y-r,imax p.x q.x+r,imax p.y q.y+r⟩
end Go.Proofs.YtmekpbopoknigaaGreatDoor
namespace Go.Proofs.YtmekpbopoknigaaGreatDoor
open Go Go.RowKit Sym
def crossesI(p a e:P2):Bool:=(decide (a.y>p.y)!=decide (e.y>p.y))&&(if e.y>a.y then decide (crossI a e p>0)else decide (crossI a e p<0))
theorem crossesF_eq{p a e:P2}(hp:PR p)(ha:PR a)(he:PR e):crossesF p a e=crossesI p a e:=by
 unfold crossesF crossesI
 rw[(cross_eq ha he hp).1]
 by_cases k:e.y>a.y
 ·simp only[k,decide_true,if_true]
  cases decide (a.y>p.y)<;>cases decide (e.y>p.y)<;>rfl
 ·simp only[k,decide_false,if_false]
  cases decide (a.y>p.y)<;>cases decide (e.y>p.y)<;>rfl
def spotB(p:P2):B4:=⟨p.x,p.y,p.x,p.y⟩
theorem meetsI_swp(b:B4)(p q:P2):meetsI b q p=meetsI b p q:=by
 have e:∀c,crossI q p c = -(crossI p q c):=λc=>by unfold crossI;grind
 unfold meetsI sepI
 rw[show all4 (λc=>decide (crossI q p c>0)) b=all4 (λc=>decide (crossI p q c<0)) b from by
  unfold all4;simp only[e,show ∀x:Int,decide (-x>0)=decide (x<0)from λx=>by rw[Bool.eq_iff_iff];simp only[decide_eq_true_eq];omega]]
 rw[show all4 (λc=>decide (crossI q p c<0)) b=all4 (λc=>decide (crossI p q c>0)) b from by
  unfold all4;simp only[e,show ∀x:Int,decide (-x<0)=decide (x>0)from λx=>by rw[Bool.eq_iff_iff];simp only[decide_eq_true_eq];omega]]
 rw[Int.max_comm q.x,Int.max_comm q.y,Int.min_comm q.x,Int.min_comm q.y]
 cases all4 (λc=>decide (crossI p q c>0)) b<;>cases all4 (λc=>decide (crossI p q c<0)) b<;>rfl
theorem crossesI_swp(p a e:P2):crossesI p e a=crossesI p a e:=by
 have h:crossI e a p = -(crossI a e p):=by unfold crossI;grind
 unfold crossesI
 rw[h,Bool.eq_iff_iff]
 by_cases k:e.y>a.y<;>by_cases k':a.y>e.y<;>simp only[k,k',if_true,if_false,Bool.and_eq_true,bne_iff_ne,ne_eq,decide_eq_decide,decide_eq_true_eq]<;>omega
theorem meets_two{b:B4}{a e p q:P2}(hp:hasI b p)(hq:hasI b q)(h0:crossI a e p<=0)(h1:0<=crossI a e q)(hs:sepI b a e=false):meetsI b a e=true:=by
 obtain⟨k,hk,hl⟩:=cross_le a e hp
 obtain⟨k',hk',hl'⟩:=cross_ge a e hq
 have f1:all4 (λc=>decide (crossI a e c>0)) b=false:=by
  rw[Bool.eq_false_iff];intro h
  have:=all4_iff.1 h k hk
  simp only[decide_eq_true_eq]at this;omega
 have f2:all4 (λc=>decide (crossI a e c<0)) b=false:=by
  rw[Bool.eq_false_iff];intro h
  have:=all4_iff.1 h k' hk'
  simp only[decide_eq_true_eq]at this;omega
 unfold meetsI
 rw[hs,f1,f2];rfl
theorem sep_no{b:B4}{a e:P2}(h1:b.x0<=max a.x e.x)(h2:min a.x e.x<=b.x1)(h3:b.y0<=max a.y e.y)(h4:min a.y e.y<=b.y1):sepI b a e=false:=by
 unfold sepI
 simp only[Bool.or_eq_false_iff,decide_eq_false_iff_not]
 omega
theorem left_of{a e p:P2}(h1:a.y<=p.y)(h2:p.y<=e.y)(h:a.y<e.y)(hx:p.x<a.x)(hx':p.x<e.x):0<crossI a e p:=by
 have e0:crossI a e p=(e.x-p.x)*(p.y-a.y)+(a.x-p.x)*(e.y-p.y):=by unfold crossI;grind
 have p1:=Int.mul_nonneg (show 0<=e.x-p.x by omega) (show 0<=p.y-a.y by omega)
 have p2:=Int.mul_nonneg (show 0<=a.x-p.x by omega) (show 0<=e.y-p.y by omega)
 rcases(show a.y<p.y\/p.y<e.y by omega)with k|k
 ·have:=Int.mul_pos (show 0<e.x-p.x by omega) (show 0<p.y-a.y by omega);omega
 ·have:=Int.mul_pos (show 0<a.x-p.x by omega) (show 0<e.y-p.y by omega);omega
theorem right_of{a e p:P2}(h1:a.y<=p.y)(h2:p.y<=e.y)(hx:a.x<=p.x)(hx':e.x<=p.x):crossI a e p<=0:=by
 have e0:crossI a e p = -((p.x-e.x)*(p.y-a.y))-(p.x-a.x)*(e.y-p.y):=by unfold crossI;grind
 have p1:=Int.mul_nonneg (show 0<=p.x-e.x by omega) (show 0<=p.y-a.y by omega)
 have p2:=Int.mul_nonneg (show 0<=p.x-a.x by omega) (show 0<=e.y-p.y by omega)
 omega
theorem crosses_up{p a e:P2}(h:a.y<=e.y):crossesI p a e=true↔a.y<=p.y/\p.y<e.y/\0<crossI a e p:=by
 unfold crossesI
 by_cases k:e.y>a.y
 ·simp only[k,if_true,Bool.and_eq_true,bne_iff_ne,ne_eq,decide_eq_decide,decide_eq_true_eq];omega
 ·simp only[k,if_false,Bool.and_eq_true,bne_iff_ne,ne_eq,decide_eq_decide,decide_eq_true_eq];omega
theorem cross_side{b:B4}{a e p q:P2}(hp:hasI b p)(hq:hasI b q)(hy:p.y=q.y)(hm:meetsI b a e=false):crossesI p a e=crossesI q a e:=by
 have one:∀{a e:P2},a.y<=e.y->meetsI b a e=false->∀{p q:P2},hasI b p->hasI b q->p.y=q.y->crossesI p a e=true->crossesI q a e=true:=by
  intro a e h hm p q hp hq hy hc
  obtain⟨c1,c2,c3⟩:=(crosses_up h).1 hc
  refine(crosses_up h).2 ⟨by omega,by omega,?_⟩
  rcases(show 0<crossI a e q\/crossI a e q<=0 by omega)with g|g
  ·exact g
  ·exfalso
   have hs:sepI b a e=false:=by
    unfold hasI at hp hq
    refine sep_no ?_ ?_ (by omega) (by omega)
    ·rcases(show b.x0<=max a.x e.x\/max a.x e.x<b.x0 by omega)with k|k
     ·exact k
     ·have:=right_of (a:=a) (e:=e) (p:=p) (by omega) (by omega) (by omega) (by omega);omega
    ·rcases(show min a.x e.x<=b.x1\/b.x1<min a.x e.x by omega)with k|k
     ·exact k
     ·have:=left_of (a:=a) (e:=e) (p:=q) (by omega) (by omega) (by omega) (by omega) (by omega);omega
   rw[meets_two hq hp g (by omega) hs]at hm;cases hm
 rw[Bool.eq_iff_iff]
 rcases Int.le_total a.y e.y with h|h
 ·exact⟨one h hm hp hq hy,one h hm hq hp hy.symm⟩
 ·rw[←crossesI_swp p,←crossesI_swp q]
  rw[←meetsI_swp]at hm
  exact⟨one h hm hp hq hy,one h hm hq hp hy.symm⟩
def stripB(u v v':Int)(w:P2):Bool:=decide (v<w.y/\w.y<=v'/\u<w.x)
theorem cross_end(a e:P2)(u:Int):crossI a e ⟨u,e.y⟩=(e.y-a.y)*(e.x-u)/\crossI a e ⟨u,a.y⟩=(e.y-a.y)*(a.x-u):=by
 unfold crossI;dsimp only;constructor<;>grind
theorem mul_sign{t x:Int}(h:0<=t):(0<x/\0<=t*x)\/(x=0/\t*x=0)\/(x<0/\t*x<=0):=by
 rcases(show 0<x\/x=0\/x<0 by omega)with k|k|k
 ·exact .inl ⟨k,Int.mul_nonneg h (by omega)⟩
 ·subst k;exact .inr (.inl ⟨rfl,Int.mul_zero _⟩)
 ·have:=Int.mul_nonneg h (show 0<=-x by omega)
  rw[Int.mul_neg]at this;exact .inr (.inr ⟨k,by omega⟩)
theorem rise_cases{ay ey ax ex u v v' G1 G2:Int}(h:ay<=ey)(hv:v<=v')
  (hC:ay<=v->v'<ey->(0<G1↔0<G2)) (hD:ay<=v->v<ey->ey<=v'->(0<G1↔u<ex)) (hE:v<ay->ay<=v'->v'<ey->(0<G2↔u<ax)) (hF:v<ay->ey<=v'->(u<ax↔u<ex)) :
  xor (decide (ay<=v/\v<ey/\0<G1)) (decide (ay<=v'/\v'<ey/\0<G2))=xor (decide (v<ay/\ay<=v'/\u<ax)) (decide (v<ey/\ey<=v'/\u<ex)):=by
 have D:∀{a b:Prop} [Decidable a] [Decidable b],(a↔b)->decide a=decide b:=λh=>decide_eq_decide.2 h
 have N:∀{a:Prop} [Decidable a],¬a->decide a=false:=λh=>decide_eq_false h
 rcases(show ey<=v\/v'<ay\/(ay<=v/\v'<ey)\/(ay<=v/\v<ey/\ey<=v')\/(v<ay/\ay<=v'/\v'<ey)\/(v<ay/\ey<=v')by omega)with k|k|⟨k1,k2⟩|⟨k1,k2,k3⟩|⟨k1,k2,k3⟩|⟨k1,k2⟩
 ·rw[N (show ¬(ay<=v/\v<ey/\0<G1)by omega),N (show ¬(ay<=v'/\v'<ey/\0<G2)by omega),N (show ¬(v<ay/\ay<=v'/\u<ax)by omega),N (show ¬(v<ey/\ey<=v'/\u<ex)by omega)]
 ·rw[N (show ¬(ay<=v/\v<ey/\0<G1)by omega),N (show ¬(ay<=v'/\v'<ey/\0<G2)by omega),N (show ¬(v<ay/\ay<=v'/\u<ax)by omega),N (show ¬(v<ey/\ey<=v'/\u<ex)by omega)]
 ·have:=hC k1 k2
  rw[D (show(ay<=v/\v<ey/\0<G1)↔0<G1 from⟨λz=>z.2.2,λz=>⟨k1,by omega,z⟩⟩),D (show(ay<=v'/\v'<ey/\0<G2)↔0<G1 from⟨λz=>this.2 z.2.2,λz=>⟨by omega,k2,this.1 z⟩⟩),N (show ¬(v<ay/\ay<=v'/\u<ax)by omega),N (show ¬(v<ey/\ey<=v'/\u<ex)by omega)]
  simp
 ·have:=hD k1 k2 k3
  rw[D (show(ay<=v/\v<ey/\0<G1)↔u<ex from⟨λz=>this.1 z.2.2,λz=>⟨k1,k2,this.2 z⟩⟩),N (show ¬(ay<=v'/\v'<ey/\0<G2)by omega),N (show ¬(v<ay/\ay<=v'/\u<ax)by omega),D (show(v<ey/\ey<=v'/\u<ex)↔u<ex from⟨λz=>z.2.2,λz=>⟨k2,k3,z⟩⟩)]
  simp
 ·have:=hE k1 k2 k3
  rw[N (show ¬(ay<=v/\v<ey/\0<G1)by omega),D (show(ay<=v'/\v'<ey/\0<G2)↔u<ax from⟨λz=>this.1 z.2.2,λz=>⟨k2,k3,this.2 z⟩⟩),D (show(v<ay/\ay<=v'/\u<ax)↔u<ax from⟨λz=>z.2.2,λz=>⟨k1,k2,z⟩⟩),N (show ¬(v<ey/\ey<=v'/\u<ex)by omega)]
  simp
 ·have:=hF k1 k2
  rw[N (show ¬(ay<=v/\v<ey/\0<G1)by omega),N (show ¬(ay<=v'/\v'<ey/\0<G2)by omega),D (show(v<ay/\ay<=v'/\u<ax)↔u<ax from⟨λz=>z.2.2,λz=>⟨k1,by omega,z⟩⟩),D (show(v<ey/\ey<=v'/\u<ex)↔u<ax from⟨λz=>this.2 z.2.2,λz=>⟨by omega,k2,this.1 z⟩⟩)]
  simp
theorem cross_rise{b:B4}{a e:P2}{u v v':Int}(hv:v<=v')(hp:hasI b ⟨u,v⟩)(hq:hasI b ⟨u,v'⟩)(hm:meetsI b a e=false):xor (crossesI ⟨u,v⟩ a e) (crossesI ⟨u,v'⟩ a e)=xor (stripB u v v' a) (stripB u v v' e):=by
 have one:∀{a e:P2},a.y<=e.y->meetsI b a e=false->xor (crossesI ⟨u,v⟩ a e) (crossesI ⟨u,v'⟩ a e)=xor (stripB u v v' a) (stripB u v v' e):=by
  intro a e h hm
  have c1:=crosses_up (p:=⟨u,v⟩) h
  have c2:=crosses_up (p:=⟨u,v'⟩) h
  obtain⟨ee,ea⟩:=cross_end a e u
  have se:=mul_sign (t:=e.y-a.y) (x:=e.x-u) (by omega)
  have sa:=mul_sign (t:=e.y-a.y) (x:=a.x-u) (by omega)
  rw[←ee]at se
  rw[←ea]at sa
  have hu:b.x0<=u/\u<=b.x1/\b.y0<=v/\v'<=b.y1:=by unfold hasI at hp hq;dsimp only at *;omega
  have rl:∀y,v<=y->y<=v'->hasI b ⟨u,y⟩:=λy h1 h2=>by unfold hasI;dsimp only;omega
  have no:∀y y',v<=y->y<=v'->v<=y'->y'<=v'->a.y<=v'->v<=e.y->min a.x e.x<=u->u<=max a.x e.x->¬(crossI a e ⟨u,y⟩<=0/\0<=crossI a e ⟨u,y'⟩):=λy y' h1 h2 h3 h4 h5 h6 h7 h8 g=>by
   rw[meets_two (rl y h1 h2) (rl y' h3 h4) g.1 g.2 (sep_no (by omega) (by omega) (by omega) (by omega))]at hm;cases hm
  have lf:∀y,a.y<=y->y<=e.y->a.y<e.y->u<a.x->u<e.x->0<crossI a e ⟨u,y⟩:=λy h1 h2 h3 h4 h5=>left_of (p:=⟨u,y⟩) h1 h2 h3 h4 h5
  have rt:∀y,a.y<=y->y<=e.y->a.x<=u->e.x<=u->crossI a e ⟨u,y⟩<=0:=λy h1 h2 h4 h5=>right_of (p:=⟨u,y⟩) h1 h2 h4 h5
  dsimp only at c1 c2
  have X1:crossesI ⟨u,v⟩ a e=decide (a.y<=v/\v<e.y/\0<crossI a e ⟨u,v⟩):=by rw[Bool.eq_iff_iff,decide_eq_true_eq];exact c1
  have X2:crossesI ⟨u,v'⟩ a e=decide (a.y<=v'/\v'<e.y/\0<crossI a e ⟨u,v'⟩):=by rw[Bool.eq_iff_iff,decide_eq_true_eq];exact c2
  rw[X1,X2]
  unfold stripB
  have lr:(u<a.x/\u<e.x)\/(a.x<=u/\e.x<=u)\/(min a.x e.x<=u/\u<=max a.x e.x):=by omega
  refine rise_cases h hv (λk1 k2=>?_) (λk1 k2 k3=>?_) (λk1 k2 k3=>?_) (λk1 k2=>?_)
  ·rcases lr with⟨g1,g2⟩|⟨g1,g2⟩|⟨g1,g2⟩
   ·exact⟨λ_=>lf v' (by omega) (by omega) (by omega) g1 g2,λ_=>lf v (by omega) (by omega) (by omega) g1 g2⟩
   ·have r1:=rt v (by omega) (by omega) g1 g2
    have r2:=rt v' (by omega) (by omega) g1 g2
    omega
   ·have n1:=no v v' (Int.le_refl _) hv hv (Int.le_refl _) (by omega) (by omega) g1 g2
    have n2:=no v' v hv (Int.le_refl _) (Int.le_refl _) hv (by omega) (by omega) g1 g2
    omega
  ·rcases lr with⟨g1,g2⟩|⟨g1,g2⟩|⟨g1,g2⟩
   ·exact⟨λ_=>g2,λ_=>lf v (by omega) (by omega) (by omega) g1 g2⟩
   ·have r1:=rt v (by omega) (by omega) g1 g2
    omega
   ·have n1:=no v e.y (Int.le_refl _) hv (by omega) (by omega) (by omega) (by omega) g1 g2
    have n2:=no e.y v (by omega) (by omega) (Int.le_refl _) hv (by omega) (by omega) g1 g2
    omega
  ·rcases lr with⟨g1,g2⟩|⟨g1,g2⟩|⟨g1,g2⟩
   ·exact⟨λ_=>g1,λ_=>lf v' (by omega) (by omega) (by omega) g1 g2⟩
   ·have r1:=rt v' (by omega) (by omega) g1 g2
    omega
   ·have n1:=no v' a.y hv (Int.le_refl _) (by omega) (by omega) (by omega) (by omega) g1 g2
    have n2:=no a.y v' (by omega) (by omega) hv (Int.le_refl _) (by omega) (by omega) g1 g2
    omega
  ·rcases lr with⟨g1,g2⟩|⟨g1,g2⟩|⟨g1,g2⟩
   ·omega
   ·omega
   ·have n1:=no a.y e.y (by omega) (by omega) (by omega) (by omega) (by omega) (by omega) g1 g2
    have n2:=no e.y a.y (by omega) (by omega) (by omega) (by omega) (by omega) (by omega) g1 g2
    omega
 rcases Int.le_total a.y e.y with h|h
 ·exact one h hm
 ·rw[←meetsI_swp]at hm
  rw[←crossesI_swp ⟨u,v⟩,←crossesI_swp ⟨u,v'⟩,one h hm,Bool.xor_comm]
theorem parN_congr{f g:Nat->Bool}:∀{n:Nat},(∀k,k<n->f k=g k)->parN f n=parN g n
 |0,_=>rfl
 |n+1,h=>by simp only[parN];rw[parN_congr λk hk=>h k (by omega),h n (by omega)]
theorem anyN_congr{f g:Nat->Bool}:∀{n:Nat},(∀k,k<n->f k=g k)->anyN f n=anyN g n
 |0,_=>rfl
 |n+1,h=>by simp only[anyN];rw[anyN_congr λk hk=>h k (by omega),h n (by omega)]
theorem parN_xor(f g:Nat->Bool):∀n,xor (parN f n) (parN g n)=parN (λk=>xor (f k) (g k)) n
 |0=>rfl
 |n+1=>by
  simp only[parN,←parN_xor f g n]
  cases parN f n<;>cases parN g n<;>cases f n<;>cases g n<;>rfl
theorem parN_false:∀n,parN (λ_=>false) n=false
 |0=>rfl
 |n+1=>by simp only[parN,parN_false n];rfl
theorem nxt_mid{m k:Nat}(h:k+1<m):nxt m k=k+1:=by
 unfold nxt
 rw[Int.tmod_eq_of_lt (by omega) (by omega)];omega
theorem nxt_end(M:Nat):nxt (M+1) M=0:=by
 unfold nxt
 rw[show((M:Int)+1)=((M+1:Nat):Int)by omega,Int.tmod_self];rfl
theorem nxt_lt{m k:Nat}(h:k<m):nxt m k<m:=by
 rcases(show k+1<m\/k+1=m by omega)with g|g
 ·rw[nxt_mid g];exact g
 ·subst g;rw[nxt_end];omega
theorem par_way(R:Nat->Bool):∀n,parN (λk=>xor (R k) (R (k+1))) n=xor (R 0) (R n)
 |0=>by simp[parN]
 |n+1=>by
  simp only[parN,par_way R n]
  cases R 0<;>cases R n<;>cases R (n+1)<;>rfl
theorem par_round(R:Nat->Bool)(m:Nat):parN (λk=>xor (R k) (R (nxt m k))) m=false:=by
 cases m with
 |zero=>rfl
 |succ M=>
  simp only[parN]
  rw[parN_congr (g:=λk=>xor (R k) (R (k+1))) λk hk=>by rw[nxt_mid (by omega)],par_way,nxt_end]
  cases R 0<;>cases R M<;>rfl
structure PRC(l:Ctr):Prop where
 p:∀i,i<l.n->∀k,k<l.m i->PR (l.p i k)
def oddI(p:P2)(l:Ctr):Bool:=parN (λi=>parN (edgeC l (crossesI p) i) (l.m i)) l.n
def touchI(b:B4)(l:Ctr):Bool:=anyN (λi=>anyN (edgeC l (meetsI b) i) (l.m i)) l.n
theorem oddF_eq{p:P2}{l:Ctr}(hp:PR p)(hl:PRC l):oddF p l=oddI p l:=parN_congr λi hi=>parN_congr λk hk=>crossesF_eq hp (hl.p i hi k hk) (hl.p i hi _ (nxt_lt hk))
theorem touchF_eq{b:B4}{l:Ctr}(hb:BR b)(hx:b.x0<=b.x1)(hy:b.y0<=b.y1)(hl:PRC l):touchF b l=touchI b l:=anyN_congr λi hi=>anyN_congr λk hk=>meets_eq hb (hl.p i hi k hk) (hl.p i hi _ (nxt_lt hk)) hx hy
theorem touchI_no{b:B4}{l:Ctr}(h:touchI b l=false):∀i,i<l.n->∀k,k<l.m i->meetsI b (l.p i k) (l.p i (nxt (l.m i) k))=false:=λi hi k hk=>by
 cases hq:meetsI b (l.p i k) (l.p i (nxt (l.m i) k))with
 |false=>rfl
 |true=>
  have:touchI b l=true:=anyN_iff.2 ⟨i,hi,anyN_iff.2 ⟨k,hk,hq⟩⟩
  rw[h]at this;cases this
theorem odd_side{b:B4}{l:Ctr}{p q:P2}(h:touchI b l=false)(hp:hasI b p)(hq:hasI b q)(hy:p.y=q.y):oddI p l=oddI q l:=
 parN_congr λi hi=>parN_congr λk hk=>cross_side hp hq hy (touchI_no h i hi k hk)
theorem odd_rise{b:B4}{l:Ctr}{u v v':Int}(h:touchI b l=false)(hv:v<=v')(hp:hasI b ⟨u,v⟩)(hq:hasI b ⟨u,v'⟩):oddI ⟨u,v⟩ l=oddI ⟨u,v'⟩ l:=by
 have e:xor (oddI ⟨u,v⟩ l) (oddI ⟨u,v'⟩ l)=false:=by
  unfold oddI
  rw[parN_xor,parN_congr (g:=λ_=>false) λi hi=>?_,parN_false]
  rw[parN_xor,parN_congr (f:=λk=>xor (edgeC l (crossesI ⟨u,v⟩) i k) (edgeC l (crossesI ⟨u,v'⟩) i k)) (g:=λk=>xor (stripB u v v' (l.p i k)) (stripB u v v' (l.p i (nxt (l.m i) k)))) λk hk=>cross_rise hv hp hq (touchI_no h i hi k hk)]
  exact par_round (λk=>stripB u v v' (l.p i k)) (l.m i)
 revert e
 cases oddI ⟨u,v⟩ l<;>cases oddI ⟨u,v'⟩ l<;>simp
theorem odd_box{b:B4}{l:Ctr}{p q:P2}(h:touchI b l=false)(hp:hasI b p)(hq:hasI b q):oddI p l=oddI q l:=by
 have hm:hasI b ⟨p.x,q.y⟩:=⟨hp.1,hp.2.1,hq.2.2.1,hq.2.2.2⟩
 have e1:oddI p l=oddI ⟨p.x,q.y⟩ l:=by
  rcases Int.le_total p.y q.y with k|k
  ·exact odd_rise (u:=p.x) (v:=p.y) h k hp hm
  ·exact(odd_rise (u:=p.x) (v':=p.y) h k hm hp).symm
 rw[e1]
 exact odd_side h hm hq rfl
end Go.Proofs.YtmekpbopoknigaaGreatDoor
namespace Go.Proofs.YtmekpbopoknigaaGreatDoor
open Go Go.RowKit Sym
set_option maxRecDepth 100000
structure Sure(i:Bool)(k:Int):Prop where
 lo:0<=k
 hi:k<=2
 i1:k=2->i=true
 i0:k=0->i=false
theorem Sure.of{i:Bool}{k:Int}(h:andB (andB (andB (andB (orB (k != 2) i) (orB (k != 0) (!i))) (decide (k>=0))) (decide (k<=2))) true=true):Sure i k:=by
 simp only[andB_eq,orB_eq,Bool.and_eq_true,Bool.or_eq_true,bne_iff_ne,decide_eq_true_eq,Bool.not_eq_true']at h
 obtain⟨⟨⟨⟨h1,h2⟩,h3⟩,h4⟩,_⟩:=h
 exact⟨h3,h4,λe=>h1.resolve_left λq=>q e,λe=>h2.resolve_left λq=>q e⟩
def hasN(g:Nat->Bool)(add:Nat->Bool)(i:Nat)(h:Bool):Bool:=bif g i then add i else h
theorem has_back(g:Nat->Bool)(add:Nat->Bool)(n:Nat):∀t,t<=n->(((runN (λt (_:Bool)=>bif g (n-1-t)then(false,add (n-1-t))else(true,false)) false t).1=true->foldN (hasN g add) false n=foldN (hasN g add) false (n-t)/\(runN (λt (_:Bool)=>bif g (n-1-t)then(false,add (n-1-t))else(true,false)) false t).2=false)
  /\((runN (λt (_:Bool)=>bif g (n-1-t)then(false,add (n-1-t))else(true,false)) false t).1=false->(runN (λt (_:Bool)=>bif g (n-1-t)then(false,add (n-1-t))else(true,false)) false t).2=foldN (hasN g add) false n))
 |0,_=>⟨λ_=>⟨rfl,rfl⟩,λh=>(by cases h)⟩
 |t+1,ht=>by
  have ih:=has_back g add n t (by omega)
  revert ih
  generalize hr:runN (λt (_:Bool)=>bif g (n-1-t)then(false,add (n-1-t))else(true,false)) false t=r
  intro ih
  obtain⟨r1,r2⟩:=r
  cases r1
  ·rw[runN_stop hr (by omega:t<=t+1)]
   exact⟨λh=>(by cases h),λ_=>ih.2 rfl⟩
  ·rw[runN_go hr]
   have e:=(ih.1 rfl).1
   have em:n-t=(n-1-t)+1:=by omega
   have e2:foldN (hasN g add) false (n-t)=bif g (n-1-t)then add (n-1-t)else foldN (hasN g add) false (n-1-t):=by rw[em];rfl
   cases q:g (n-1-t)
   ·refine⟨λ_=>⟨?_,rfl⟩,λh=>(by cases h)⟩
    rw[e,e2,q,show n-(t+1)=n-1-t by omega];rfl
   ·refine⟨λh=>(by cases h),λ_=>?_⟩
    rw[e,e2,q];rfl
theorem has_fold(g:Nat->Bool)(add:Nat->Bool)(n:Nat):(runN (λt (_:Bool)=>bif g (n-1-t)then(false,add (n-1-t))else(true,false)) false n).2=foldN (hasN g add) false n:=by
 have h:=has_back g add n n (Nat.le_refl n)
 revert h
 generalize runN (λt (_:Bool)=>bif g (n-1-t)then(false,add (n-1-t))else(true,false)) false n=r
 intro h
 obtain⟨r1,r2⟩:=r
 cases r1
 ·exact h.2 rfl
 ·have q:=h.1 rfl
  rw[q.1,Nat.sub_self];exact q.2
theorem wid_bd{r:Int}(h:widF r=true):1<=r/\r<=536870912:=by
 unfold widF at h
 rw[andB_eq,Bool.and_eq_true,decide_eq_true_eq,decide_eq_true_eq]at h
 omega
theorem tmX_le(sm:Bool):tmX sm<=536870912:=by cases sm<;>decide
theorem ru_sq{v:Int}(hv:v<=4611686018427387904):∀k,k<=ruN v->ruI (foldN (ruG v) ruA k)/\v<=(foldN (ruG v) ruA k).2*(foldN (ruG v) ruA k).2:=λk=>by
 induction k with
 |zero=>intro _;exact⟨(⟨by decide,by decide,by decide⟩:ruI ruA),by show v<=2147483648*2147483648;omega⟩
 |succ k ih=>
  intro hk
  have q:=ih (by omega)
  have lt:=(ru_all v).1 k (by omega)
  have st:=ru_step (v:=v) q.1 lt
  refine⟨st.1,?_⟩
  have m:=ruM_eq q.1
  show v<=(ruStep v (foldN (ruG v) ruA k)).2*(ruStep v (foldN (ruG v) ruA k)).2
  generalize foldN (ruG v) ruA k=a at *
  obtain⟨q1,q2,q3⟩:=q.1
  have bd:ruM a*ruM a<=2147483648*2147483648:=Int.mul_le_mul (by omega) (by omega) (by omega) (by decide)
  have nn:0<=ruM a*ruM a:=Int.mul_nonneg (by omega) (by omega)
  unfold ruStep
  rw[W_id (x:=ruM a*ruM a) (by omega) (by omega)]
  by_cases h:ruM a*ruM a>=v
  ·rw[decide_eq_true h];exact h
  ·rw[decide_eq_false h];exact q.2
theorem rupF_sq{v:Int}(hv:v<=4611686018427387904):0<=rupF v/\rupF v<=2147483648/\v<=rupF v*rupF v:=by
 have q:=ru_sq hv (ruN v) (Nat.le_refl _)
 have e:=(ru_all v).2
 obtain⟨⟨q1,q2,q3⟩,q4⟩:=q
 have:(foldN (ruG v) ruA (ruN v)).1=(foldN (ruG v) ruA (ruN v)).2:=by omega
 unfold rupF
 rw[this]
 rw[this]at q1
 exact⟨q1,q3,q4⟩
theorem sq_le_abs{e s:Int}(hs:0<=s)(h:e*e<=s*s) : -s<=e/\e<=s:=by
 constructor
 ·rcases Int.lt_or_le e (-s)with k|k
  ·have:=Int.mul_le_mul (show s+1<=-e by omega) (show s+1<=-e by omega) (by omega) (by omega)
   have e1 : -e * -e=e*e:=by grind
   have e2:(s+1)*(s+1)=s*s+2*s+1:=by grind
   omega
  ·exact k
 ·rcases Int.lt_or_le s e with k|k
  ·have:=Int.mul_le_mul (show s+1<=e by omega) (show s+1<=e by omega) (by omega) (by omega)
   have e2:(s+1)*(s+1)=s*s+2*s+1:=by grind
   omega
  ·exact k
theorem imin_le(x y:Int):imin x y<=x/\imin x y<=y/\(imin x y=x\/imin x y=y):=by unfold imin;split<;>omega
theorem imax_ge(x y:Int):x<=imax x y/\y<=imax x y/\(imax x y=x\/imax x y=y):=by unfold imax;split<;>omega
abbrev FF:Int:=536870912
theorem aro_cut{p q:P2}{r:Int}(hp:PB FF p)(hq:PB FF q)(h0:0<=r)(h1:r<=8589934592):aroundF p q r=⟨imax (imin p.x q.x-r) (-FF),imax (imin p.y q.y-r) (-FF),imin (imax p.x q.x+r) FF,imin (imax p.y q.y+r) FF⟩:=by
 obtain⟨⟨p1,p2⟩,p3,p4⟩:=hp
 obtain⟨⟨q1,q2⟩,q3,q4⟩:=hq
 have e1:=imin_le p.x q.x
 have e2:=imin_le p.y q.y
 have e3:=imax_ge p.x q.x
 have e4:=imax_ge p.y q.y
 unfold aroundF
 generalize imin p.x q.x=a at *
 generalize imin p.y q.y=b at *
 generalize imax p.x q.x=c at *
 generalize imax p.y q.y=d at *
 unfold FF at *
 rw[W_id (x:=a-r) (by omega) (by omega),W_id (x:=b-r) (by omega) (by omega),W_id (x:=c+r) (by omega) (by omega),W_id (x:=d+r) (by omega) (by omega)]
theorem aro_has{p q z:P2}{r:Int}(hp:PB FF p)(hq:PB FF q)(h0:0<=r)(h1:r<=8589934592)(hz:PB FF z):hasI (aroundF p q r) z↔hasI (aroI p q r) z:=by
 rw[aro_cut hp hq h0 h1]
 obtain⟨⟨z1,z2⟩,z3,z4⟩:=hz
 unfold hasI aroI
 dsimp only
 generalize imin p.x q.x=a
 generalize imin p.y q.y=b
 generalize imax p.x q.x=c
 generalize imax p.y q.y=d
 have e1:=imax_ge (a-r) (-FF)
 have e2:=imax_ge (b-r) (-FF)
 have e3:=imin_le (c+r) FF
 have e4:=imin_le (d+r) FF
 unfold FF at *
 omega
theorem aro_fits{p q:P2}{r:Int}(hp:PB FF p)(hq:PB FF q)(h0:0<=r)(h1:r<=8589934592):Fits (aroundF p q r):=by
 rw[aro_cut hp hq h0 h1]
 obtain⟨⟨p1,p2⟩,p3,p4⟩:=hp
 obtain⟨⟨q1,q2⟩,q3,q4⟩:=hq
 have e1:=imin_le p.x q.x
 have e2:=imin_le p.y q.y
 have e3:=imax_ge p.x q.x
 have e4:=imax_ge p.y q.y
 generalize imin p.x q.x=a at *
 generalize imin p.y q.y=b at *
 generalize imax p.x q.x=c at *
 generalize imax p.y q.y=d at *
 have f1:=imax_ge (a-r) (-FF)
 have f2:=imax_ge (b-r) (-FF)
 have f3:=imin_le (c+r) FF
 have f4:=imin_le (d+r) FF
 unfold FF at *
 constructor<;>dsimp only<;>omega
def Off(U b:B4):Prop:=U.x1<b.x0\/b.x1<U.x0\/U.y1<b.y0\/b.y1<U.y0
theorem aro_off{p q:P2}{b:B4}{r:Int}(hp:PB FF p)(hq:PB FF q)(h0:0<=r)(h1:r<=8589934592)(hb:Fits b)(h:Off (aroundF p q r) b):Off (aroI p q r) b:=by
 rw[aro_cut hp hq h0 h1]at h
 obtain⟨b1,b2,b3,b4,b5,b6⟩:=hb
 unfold Off aroI at *
 dsimp only at *
 generalize imin p.x q.x=a at *
 generalize imin p.y q.y=b' at *
 generalize imax p.x q.x=c at *
 generalize imax p.y q.y=d at *
 have f1:=imax_ge (a-r) (-FF)
 have f2:=imax_ge (b'-r) (-FF)
 have f3:=imin_le (c+r) FF
 have f4:=imin_le (d+r) FF
 unfold FF at *
 omega
theorem off_has{U b:B4}{z:P2}(h:Off U b)(hb:hasI b z):¬hasI U z:=by
 unfold Off hasI at *
 omega
theorem dist_box{p c:P2}{r:Int}(h0:0<=r)(h:distI p c<=r*r):hasI (aroI c c r) p:=by
 have s1:=sq_nn (p.x-c.x)
 have s2:=sq_nn (p.y-c.y)
 unfold distI at h
 have a1:=sq_le_abs (e:=p.x-c.x) h0 (by omega)
 have a2:=sq_le_abs (e:=p.y-c.y) h0 (by omega)
 have e1:=imin_le c.x c.x
 have e2:=imin_le c.y c.y
 have e3:=imax_ge c.x c.x
 have e4:=imax_ge c.y c.y
 unfold hasI aroI
 dsimp only
 omega
theorem seg_lo{n m px ax cx r lo:Int}(n0:0<n)(m0:0<=m)(mn:m<=n)(hr:0<=r)(he:(n*(px-ax)-m*(cx-ax))*(n*(px-ax)-m*(cx-ax))<=n*n*(r*r))(h1:lo<=ax)(h2:lo<=cx):lo-r<=px:=by
 have e1:n*n*(r*r)=(n*r)*(n*r):=by grind
 rw[e1]at he
 have a1:=(sq_le_abs (Int.mul_nonneg (by omega) hr) he).1
 have k1:(n-m)*lo<=(n-m)*ax:=Int.mul_le_mul_of_nonneg_left h1 (by omega)
 have k2:m*lo<=m*cx:=Int.mul_le_mul_of_nonneg_left h2 m0
 have e2:n*(px-ax)-m*(cx-ax)=n*px-((n-m)*ax+m*cx):=by grind
 have e3:(n-m)*lo+m*lo=n*lo:=by grind
 have e4:n*(lo-r)=n*lo-n*r:=by grind
 exact Int.le_of_mul_le_mul_left (show n*(lo-r)<=n*px by omega) n0
theorem seg_hi{n m px ax cx r hi:Int}(n0:0<n)(m0:0<=m)(mn:m<=n)(hr:0<=r)(he:(n*(px-ax)-m*(cx-ax))*(n*(px-ax)-m*(cx-ax))<=n*n*(r*r))(h1:ax<=hi)(h2:cx<=hi):px<=hi+r:=by
 have:=seg_lo (px:=-px) (ax:=-ax) (cx:=-cx) (lo:=-hi) n0 m0 mn hr (by
  have e:n*(-px - -ax)-m*(-cx - -ax) = -(n*(px-ax)-m*(cx-ax)):=by grind
  rw[e]
  have e2 : -(n*(px-ax)-m*(cx-ax)) * -(n*(px-ax)-m*(cx-ax))=(n*(px-ax)-m*(cx-ax))*(n*(px-ax)-m*(cx-ax)):=by grind
  rw[e2];exact he) (by omega) (by omega)
 omega
theorem onS_box{p a c:P2}{r:Int}(h0:0<=r)(h:OnS p a c (r*r)):hasI (aroI a c r) p:=by
 obtain⟨m,n,n0,m0,mn,hd⟩:=h
 have s1:=sq_nn (n*(p.x-a.x)-m*(c.x-a.x))
 have s2:=sq_nn (n*(p.y-a.y)-m*(c.y-a.y))
 have e1:=imin_le a.x c.x
 have e2:=imin_le a.y c.y
 have e3:=imax_ge a.x c.x
 have e4:=imax_ge a.y c.y
 exact⟨seg_lo n0 m0 mn h0 (by omega) e1.1 e1.2.1,seg_hi n0 m0 mn h0 (by omega) e3.1 e3.2.1,seg_lo n0 m0 mn h0 (by omega) e2.1 e2.2.1,seg_hi n0 m0 mn h0 (by omega) e4.1 e4.2.1⟩
theorem bar_line{p a c:P2}{r:Int}(h:barI p a c r=true):lineI p a c r=true:=by
 unfold barI at h
 simp only[Bool.and_eq_true,Bool.not_eq_true',decide_eq_true_eq,decide_eq_false_iff_not]at h
 obtain⟨⟨⟨⟨hs,h1⟩,hc⟩,hd0⟩,hd1⟩:=h
 have hall:0<distI a c:=by
  have:=dist_nn a c
  have:=(not_congr (dist_pos a c)).2 hs
  omega
 have l1:=lagrange a c p
 have l2:=lagrange2 a c p
 have hc':=hc
 unfold clear at hc
 rw[decide_eq_true_eq]at hc
 unfold lineI
 by_cases k:dotI a c p<=0
 ·rw[if_pos k,decide_eq_true_eq]
  have z:dotI a c p=0:=by omega
  rw[z]at l1
  have e:r*r*distI a c=distI a c*(r*r):=by grind
  exact Int.le_of_mul_le_mul_left (show distI a c*distI p a<=distI a c*(r*r)by omega) hall
 ·rw[if_neg k]
  by_cases k2:dotI a c p>=distI a c
  ·rw[if_pos k2,decide_eq_true_eq]
   have z:dotI a c p-distI a c=0:=by omega
   rw[z]at l2
   have e:r*r*distI a c=distI a c*(r*r):=by grind
   exact Int.le_of_mul_le_mul_left (show distI a c*distI p c<=distI a c*(r*r)by omega) hall
  ·rw[if_neg k2];exact hc'
theorem near_off{b:B4}{a c q:P2}{r:Int}(hx:b.x0<=b.x1)(hy:b.y0<=b.y1)(h0:0<=r)(ho:Off (aroI a c r) b)(hq:q=a\/q=c):r*r<nearI b q:=by
 rcases Int.lt_or_le (r*r) (nearI b q)with k|k
 ·exact k
 ·rw[near_nearest hx hy]at k
  have hb:hasI b (nearest b q):=by
   unfold nearest hasI
   dsimp only
   omega
  have:=dist_box h0 k
  refine absurd ?_ (off_has ho hb)
  have e1:=imin_le a.x c.x
  have e2:=imin_le a.y c.y
  have e3:=imax_ge a.x c.x
  have e4:=imax_ge a.y c.y
  have f1:=imin_le q.x q.x
  have f2:=imin_le q.y q.y
  have f3:=imax_ge q.x q.x
  have f4:=imax_ge q.y q.y
  unfold hasI aroI at *
  dsimp only at *
  rcases hq with rfl|rfl<;>omega
theorem line_off{b:B4}{a c:P2}{r:Int}(hx:b.x0<=b.x1)(hy:b.y0<=b.y1)(h0:0<=r)(ho:Off (aroI a c r) b):lineCl b a c r=0:=by
 have none:∀k,isC b k->lineI k a c r=false:=λk hk=>by
  cases h:lineI k a c r with
  |false=>rfl
  |true=>exact absurd (onS_box h0 (lineI_iff.1 h)) (off_has ho (isC_has hx hy hk))
 have c0:lineI ⟨b.x0,b.y0⟩ a c r=false:=none _ ⟨.inl rfl,.inl rfl⟩
 unfold lineCl
 have h4:all4 (λq=>lineI q a c r) b=false:=by
  unfold all4
  dsimp only
  rw[c0];rfl
 have h5:any4 (λq=>lineI q a c r) b=false:=by
  rw[Bool.eq_false_iff]
  intro h
  obtain⟨k,hk,h⟩:=any4_iff.1 h
  rw[none k hk]at h;cases h
 have h6:=near_off (q:=a) hx hy h0 ho (.inl rfl)
 have h7:=near_off (q:=c) hx hy h0 ho (.inr rfl)
 have h8:meetsI b a c=false:=by
  unfold meetsI sepI
  have e1:=imin_le a.x c.x
  have e2:=imin_le a.y c.y
  have e3:=imax_ge a.x c.x
  have e4:=imax_ge a.y c.y
  have:decide (max a.x c.x<b.x0)=true\/decide (min a.x c.x>b.x1)=true\/decide (max a.y c.y<b.y0)=true\/decide (min a.y c.y>b.y1)=true:=by
   simp only[decide_eq_true_eq]
   unfold Off aroI at ho
   dsimp only at ho
   omega
  rcases this with h|h|h|h<;>rw[h]<;>simp
 rw[h4,h5,h8,decide_eq_false (by omega),decide_eq_false (by omega)]
 rfl
theorem disc_ring{p c e:P2}{r:Int}(h:distI p e<=r*r):outI (distI p c) (distI e c) r=true/\insI (distI p c) (distI e c) r=true:=by
 have hp:∃px,px=p.x-c.x:=⟨_,rfl⟩
 have hp':∃py,py=p.y-c.y:=⟨_,rfl⟩
 have hq:∃qx,qx=p.x-e.x:=⟨_,rfl⟩
 have hq':∃qy,qy=p.y-e.y:=⟨_,rfl⟩
 obtain⟨px,epx⟩:=hp;obtain⟨py,epy⟩:=hp';obtain⟨qx,eqx⟩:=hq;obtain⟨qy,eqy⟩:=hq'
 have d:distI p c=px*px+py*py:=by unfold distI;rw[←epx,←epy]
 have s:distI p e=qx*qx+qy*qy:=by unfold distI;rw[←eqx,←eqy]
 have rr:distI e c=(px-qx)*(px-qx)+(py-qy)*(py-qy):=by
  unfold distI
  have e1:e.x-c.x=px-qx:=by omega
  have e2:e.y-c.y=py-qy:=by omega
  rw[e1,e2]
 rw[s]at h
 rw[d,rr]
 clear d s rr epx epy eqx eqy
 have hs:0<=qx*qx+qy*qy:=by have:=sq_nn qx;have:=sq_nn qy;omega
 have cs:∀u v:Int,(u*qx+v*qy)*(u*qx+v*qy)<=(u*u+v*v)*(r*r):=λu v=>by
  have a:(u*u+v*v)*(qx*qx+qy*qy)=(u*qx+v*qy)*(u*qx+v*qy)+(u*qy-v*qx)*(u*qy-v*qx):=by grind
  have b:=sq_nn (u*qy-v*qx)
  have n:0<=u*u+v*v:=by have:=sq_nn u;have:=sq_nn v;omega
  have m:=Int.mul_le_mul_of_nonneg_left h n
  omega
 constructor
 ·unfold outI;rw[decide_eq_true_eq]
  by_cases k:(px-qx)*(px-qx)+(py-qy)*(py-qy)-r*r-(px*px+py*py)<=0
  ·exact .inl k
  ·refine .inr ?_
   have c1:=cs px py
   have l:(px-qx)*(px-qx)+(py-qy)*(py-qy)-r*r-(px*px+py*py)<=-2*(px*qx+py*qy):=by
    have:(px-qx)*(px-qx)+(py-qy)*(py-qy)-(px*px+py*py) = -2*(px*qx+py*qy)+(qx*qx+qy*qy):=by grind
    omega
   have q:=sq_le (x:=(px-qx)*(px-qx)+(py-qy)*(py-qy)-r*r-(px*px+py*py)) (y:=-2*(px*qx+py*qy)) (by omega) l
   have e1 : -2*(px*qx+py*qy)*(-2*(px*qx+py*qy))=4*((px*qx+py*qy)*(px*qx+py*qy)):=by grind
   have e2:4*(px*px+py*py)*(r*r)=4*((px*px+py*py)*(r*r)):=by grind
   omega
 ·unfold insI;rw[decide_eq_true_eq]
  by_cases k:px*px+py*py-((px-qx)*(px-qx)+(py-qy)*(py-qy))-r*r<=0
  ·exact .inl k
  ·refine .inr ?_
   have c1:=cs (px-qx) (py-qy)
   have l:px*px+py*py-((px-qx)*(px-qx)+(py-qy)*(py-qy))-r*r<=2*((px-qx)*qx+(py-qy)*qy):=by
    have:px*px+py*py-((px-qx)*(px-qx)+(py-qy)*(py-qy))=2*((px-qx)*qx+(py-qy)*qy)+(qx*qx+qy*qy):=by grind
    omega
   have q:=sq_le (x:=px*px+py*py-((px-qx)*(px-qx)+(py-qy)*(py-qy))-r*r) (y:=2*((px-qx)*qx+(py-qy)*qy)) (by omega) l
   have e1:2*((px-qx)*qx+(py-qy)*qy)*(2*((px-qx)*qx+(py-qy)*qy))=4*(((px-qx)*qx+(py-qy)*qy)*((px-qx)*qx+(py-qy)*qy)):=by grind
   have e2:4*((px-qx)*(px-qx)+(py-qy)*(py-qy))*(r*r)=4*(((px-qx)*(px-qx)+(py-qy)*(py-qy))*(r*r)):=by grind
   omega
theorem ins_le{d rr r R:Int}(hR:0<=R)(hr:0<=r)(h:rr<=R*R)(h0:0<=rr)(k:insI d rr r=true):d<=(R+r)*(R+r):=by
 unfold insI at k
 rw[decide_eq_true_eq]at k
 have e:(R+r)*(R+r)=R*R+2*(R*r)+r*r:=by grind
 have n1:0<=R*r:=Int.mul_nonneg hR hr
 rcases k with k|k
 ·omega
 ·have m:4*rr*(r*r)<=(2*(R*r))*(2*(R*r)):=by
   have e2:(2*(R*r))*(2*(R*r))=4*(R*R)*(r*r):=by grind
   rw[e2]
   exact Int.mul_le_mul_of_nonneg_right (by omega) (Int.mul_nonneg hr hr)
  have:=(sq_le_abs (e:=d-rr-r*r) (s:=2*(R*r)) (by omega) (by omega)).2
  omega
theorem ring_d{p c a e:P2}{r R:Int}(ok:okI c a e)(hR:0<=R)(hr:0<=r)(h:distI a c<=R*R)(k:ringI p c a e r=true):distI p c<=(R+r)*(R+r):=by
 have h0:=dist_nn a c
 unfold ringI at k
 rw[Bool.or_eq_true,Bool.or_eq_true,decide_eq_true_eq,decide_eq_true_eq,Bool.and_eq_true]at k
 rcases k with(k|k)|k
 ·exact ins_le hR hr h h0 (disc_ring k).2
 ·exact ins_le hR hr h h0 (by rw[ok.2];exact(disc_ring k).2)
 ·exact ins_le hR hr h h0 k.2
theorem near_le2{b:B4}{q c:P2}(hx:b.x0<=b.x1)(hy:b.y0<=b.y1)(h:hasI b q):nearI b c<=distI q c:=by
 obtain⟨h1,h2,h3,h4⟩:=h
 have g:∀{v lo hi w:Int},lo<=w->w<=hi->gapI v lo hi*gapI v lo hi<=(w-v)*(w-v):=λ{v lo hi w} a b=>by
  unfold gapI
  split
  ·exact Int.mul_le_mul (by omega) (by omega) (by omega) (by omega)
  ·split
   ·have e:(w-v)*(w-v)=(v-w)*(v-w):=by grind
    rw[e]
    exact Int.mul_le_mul (by omega) (by omega) (by omega) (by omega)
   ·have:=sq_nn (w-v);omega
 unfold nearI distI
 have:=g (v:=c.x) h1 h2
 have:=g (v:=c.y) h3 h4
 omega
theorem ring_off{b:B4}{c a e:P2}{r R:Int}(hx:b.x0<=b.x1)(hy:b.y0<=b.y1)(ok:okI c a e)(hR:0<=R)(hr:0<=r)(h:distI a c<=R*R)(ho:Off (aroI c c (R+r)) b):ringCl b c a e r=0:=by
 have h0:=dist_nn a c
 have far:=near_off (q:=c) hx hy (show 0<=R+r by omega) ho (.inl rfl)
 have hm:=near_most (b:=b) (p:=c) hx hy
 have i1:insI (nearI b c) (distI a c) r=false:=by
  cases k:insI (nearI b c) (distI a c) r with
  |false=>rfl
  |true=>have:=ins_le hR hr h h0 k;omega
 have i2:insI (mostI b c) (distI a c) r=false:=by
  cases k:insI (mostI b c) (distI a c) r with
  |false=>rfl
  |true=>have:=ins_le hR hr h h0 k;omega
 have n:∀q,distI q c=distI a c->r*r<nearI b q:=λq hq=>by
  rcases Int.lt_or_le (r*r) (nearI b q)with k|k
  ·exact k
  ·rw[near_nearest hx hy]at k
   have hb:hasI b (nearest b q):=by
    unfold nearest hasI
    dsimp only
    omega
   have h1:=ins_le hR hr h h0 (hq▸(disc_ring k).2)
   have h2:=near_le2 (c:=c) hx hy hb
   omega
 have n1:=n a rfl
 have n2:=n e ok.2.symm
 have m1:=near_most (b:=b) (p:=a) hx hy
 have m2:=near_most (b:=b) (p:=e) hx hy
 unfold ringCl
 rw[if_neg (by omega),i1,i2,if_neg (by simp),if_neg (by omega),if_pos (by simp)]
def InC(U:B4)(l:Ctr):Prop:=∀i,i<l.n->∀k,k<l.m i->hasI U (l.p i k)
theorem odd_none{l:Ctr}{p:P2}(h:∀i,i<l.n->∀k,k<l.m i->crossesI p (l.p i k) (l.p i (nxt (l.m i) k))=false):oddI p l=false:=by
 unfold oddI
 rw[parN_congr (g:=λ_=>false) λi hi=>?_,parN_false]
 rw[parN_congr (f:=edgeC l (crossesI p) i) (g:=λ_=>false) λk hk=>h i hi k hk,parN_false]
theorem odd_ver{l:Ctr}{U:B4}{p:P2}(h:InC U l)(hp:p.y<U.y0\/U.y1<=p.y):oddI p l=false:=odd_none λi hi k hk=>by
 have a:=h i hi k hk
 have e:=h i hi _ (nxt_lt hk)
 unfold crossesI hasI at *
 rcases hp with hp|hp
 ·rw[decide_eq_true (show(l.p i k).y>p.y by omega),decide_eq_true (show(l.p i (nxt (l.m i) k)).y>p.y by omega)];rfl
 ·rw[decide_eq_false (show ¬(l.p i k).y>p.y by omega),decide_eq_false (show ¬(l.p i (nxt (l.m i) k)).y>p.y by omega)];rfl
theorem sep_off{b U:B4}{a e:P2}(h:Off U b)(ha:hasI U a)(he:hasI U e):meetsI b a e=false:=by
 unfold meetsI sepI
 have:decide (max a.x e.x<b.x0)=true\/decide (min a.x e.x>b.x1)=true\/decide (max a.y e.y<b.y0)=true\/decide (min a.y e.y>b.y1)=true:=by
  simp only[decide_eq_true_eq]
  unfold Off hasI at *
  omega
 rcases this with h|h|h|h<;>rw[h]<;>simp
theorem touch_off{b U:B4}{l:Ctr}(h:Off U b)(hl:InC U l):touchI b l=false:=by
 rw[Bool.eq_false_iff]
 intro hq
 obtain⟨i,hi,hq⟩:=anyN_iff.1 hq
 obtain⟨k,hk,hq⟩:=anyN_iff.1 hq
 unfold edgeC at hq
 rw[sep_off h (hl i hi k hk) (hl i hi _ (nxt_lt hk))]at hq
 cases hq
theorem odd_off{l:Ctr}{U:B4}{p:P2}(h:InC U l)(hp:¬hasI U p):oddI p l=false:=by
 by_cases hy:p.y<U.y0\/U.y1<=p.y
 ·exact odd_ver h hy
 ·have hb:Off U ⟨p.x,p.y,p.x,U.y1⟩:=by
   unfold hasI at hp
   unfold Off
   dsimp only
   omega
  have e:=odd_box (p:=p) (q:=⟨p.x,U.y1⟩) (touch_off hb h) ⟨Int.le_refl _,Int.le_refl _,Int.le_refl _,by show p.y<=U.y1;omega⟩ ⟨Int.le_refl _,Int.le_refl _,by show p.y<=U.y1;omega,Int.le_refl _⟩
  rw[e]
  exact odd_ver h (.inr (Int.le_refl _))
theorem spot_off{U:B4}{p:P2}(hp:¬hasI U p):Off U (spotB p):=by
 unfold Off spotB hasI at *
 dsimp only
 omega
theorem poly_has{l:Ctr}{U:B4}{p:P2}(hl:PRC l)(hp:PR p)(h:InC U l)(k:polyHasF p l=true):hasI U p:=by
 by_cases hn:hasI U p
 ·exact hn
 ·unfold polyHasF at k
  rw[touchF_eq (b:=spotF p) ⟨hp.x,hp.y,hp.x,hp.y⟩ (Int.le_refl _) (Int.le_refl _) hl,oddF_eq hp hl,odd_off h hn,show touchI (spotF p) l=false from touch_off (spot_off hn) h]at k
  cases k
theorem poly_off{l:Ctr}{U b:B4}(hl:PRC l)(hb:BR b)(hx:b.x0<=b.x1)(hy:b.y0<=b.y1)(h:InC U l)(ho:Off U b):polyClassF b l=0:=by
 have hC:hasI b ⟨b.x0,b.y0⟩:=⟨Int.le_refl _,hx,Int.le_refl _,hy⟩
 unfold polyClassF
 rw[touchF_eq hb hx hy hl,oddF_eq (PR_of_has hb hC) hl,touch_off ho h,odd_off h (off_has ho hC),(boxHas_eq b ⟨b.x0,b.y0⟩).2 hC]
 rfl
theorem poly_no{l:Ctr}{b:B4}(hl:PRC l)(hb:BR b)(hx:b.x0<=b.x1)(hy:b.y0<=b.y1)(h:∀i,i<l.n->l.m i=0):polyClassF b l=0:=
 poly_off (U:=⟨b.x1+1,b.y0,b.x1+1,b.y1⟩) hl hb hx hy (λi hi k hk=>by rw[h i hi]at hk;omega) (.inr (.inl (by dsimp only;omega)))
structure In4(a U:B4):Prop where
 x0:U.x0<=a.x0
 y0:U.y0<=a.y0
 x1:a.x1<=U.x1
 y1:a.y1<=U.y1
theorem In4.has{a U:B4}{p:P2}(h:In4 a U)(k:hasI a p):hasI U p:=by
 obtain⟨h1,h2,h3,h4⟩:=h
 unfold hasI at *
 omega
theorem tk_in(f:Bool)(a b:B4):In4 b (tkF f a b)/\(f=true->In4 a (tkF f a b)):=by
 have e1:=imin_le a.x0 b.x0
 have e2:=imin_le a.y0 b.y0
 have e3:=imax_ge a.x1 b.x1
 have e4:=imax_ge a.y1 b.y1
 cases f with
 |false=>exact⟨⟨Int.le_refl _,Int.le_refl _,Int.le_refl _,Int.le_refl _⟩,λh=>by cases h⟩
 |true=>exact⟨⟨e1.2.1,e2.2.1,e3.2.1,e4.2.1⟩,λ_=>⟨e1.1,e2.1,e3.1,e4.1⟩⟩
theorem tk_fits{f:Bool}{a b:B4}(hb:Fits b)(ha:f=true->Fits a):Fits (tkF f a b):=by
 cases f with
 |false=>exact⟨hb.x0,hb.x,hb.x1,hb.y0,hb.y,hb.y1⟩
 |true=>
  obtain⟨a1,a2,a3,a4,a5,a6⟩:=ha rfl
  obtain⟨b1,b2,b3,b4,b5,b6⟩:=hb
  have e1:=imin_le a.x0 b.x0
  have e2:=imin_le a.y0 b.y0
  have e3:=imax_ge a.x1 b.x1
  have e4:=imax_ge a.y1 b.y1
  unfold tkF
  constructor<;>simp only[cond_true]<;>omega
def Cov(q:Bool×B4)(b:B4):Prop:=q.1=true/\In4 b q.2
def Gd(q:Bool×B4):Prop:=q.1=true->Fits q.2
theorem In4.trans{a b c:B4}(h:In4 a b)(k:In4 b c):In4 a c:=⟨Int.le_trans k.x0 h.x0,Int.le_trans k.y0 h.y0,Int.le_trans h.x1 k.x1,Int.le_trans h.y1 k.y1⟩
theorem cov_tk{q:Bool×B4}(b:B4):Cov (true,tkF q.1 q.2 b) b/\∀c,Cov q c->Cov (true,tkF q.1 q.2 b) c:=
 ⟨⟨rfl,(tk_in q.1 q.2 b).1⟩,λc h=>⟨rfl,h.2.trans ((tk_in q.1 q.2 b).2 h.1)⟩⟩
theorem foldN_keep{g:Nat->Bool×B4->Bool×B4}{n:Nat}(hg:∀i q c,i<n->Cov q c->Cov (g i q) c){a:Bool×B4}{c:B4}(h:Cov a c):Cov (foldN g a n) c:=by
 induction n with
 |zero=>exact h
 |succ n ih=>exact hg n _ c (Nat.lt_succ_self n) (ih λi q c hi=>hg i q c (by omega))
theorem foldN_cov{g:Nat->Bool×B4->Bool×B4}{n:Nat}(hg:∀i q c,i<n->Cov q c->Cov (g i q) c){i:Nat}(hi:i<n){b:B4}(h:∀q,Cov (g i q) b)(a:Bool×B4):Cov (foldN g a n) b:=by
 induction n with
 |zero=>omega
 |succ n ih=>
  show Cov (g n (foldN g a n)) b
  by_cases e:i=n
  ·subst e;exact h _
  ·exact hg n _ b (Nat.lt_succ_self n) (ih (λi q c hi=>hg i q c (by omega)) (by omega))
theorem foldN_gd{g:Nat->Bool×B4->Bool×B4}{n:Nat}(hg:∀i q,i<n->Gd q->Gd (g i q)){a:Bool×B4}(h:Gd a):Gd (foldN g a n):=by
 induction n with
 |zero=>exact h
 |succ n ih=>exact hg n _ (Nat.lt_succ_self n) (ih λi q hi=>hg i q (by omega))
theorem spot_aro{p:P2}(h:PB FF p):hasI (aroundF p p 0) p:=(aro_has h h (by omega) (by omega) h).2 (dist_box (by omega) (by unfold distI;grind))
theorem PB_F{B:Int}(hB:B<=FF){p:P2}(h:PB B p):PB FF p:=by
 obtain⟨⟨h1,h2⟩,h3,h4⟩:=h
 unfold FF at *
 exact⟨⟨by omega,by omega⟩,by omega,by omega⟩
theorem PB_R{p:P2}(h:PB FF p):PR p:=near_PR (PB_near (Int.le_refl _) h)
theorem dist_far{a c:P2}(ha:PB FF a)(hc:PB FF c):distI a c<=2305843009213693952:=by
 obtain⟨⟨a1,a2⟩,a3,a4⟩:=ha
 obtain⟨⟨c1,c2⟩,c3,c4⟩:=hc
 unfold FF at *
 have g:∀x:Int,-1073741824<=x->x<=1073741824->x*x<=1152921504606846976:=λx h1 h2=>by
  rcases Int.le_total 0 x with h|h
  ·exact Int.mul_le_mul h2 h2 h (by decide)
  ·have:=Int.mul_le_mul (show -x<=1073741824 by omega) (show -x<=1073741824 by omega) (by omega) (by decide)
   have e : -x * -x=x*x:=by grind
   omega
 have:=g (a.x-c.x) (by omega) (by omega)
 have:=g (a.y-c.y) (by omega) (by omega)
 unfold distI
 omega
theorem most_far2{b:B4}{c:P2}(hb:Fits b)(hc:PB FF c):mostI b c<=4000000000000000000:=by
 rw[most_corner hb.x hb.y]
 obtain⟨b1,b2,b3,b4,b5,b6⟩:=hb
 have g:∀q:P2,PB FF q->distI q c<=2305843009213693952:=λq hq=>dist_far hq hc
 have k1:=g ⟨b.x0,b.y0⟩ ⟨⟨by unfold FF;dsimp only;omega,by unfold FF;dsimp only;omega⟩,by unfold FF;dsimp only;omega,by unfold FF;dsimp only;omega⟩
 have k2:=g ⟨b.x1,b.y0⟩ ⟨⟨by unfold FF;dsimp only;omega,by unfold FF;dsimp only;omega⟩,by unfold FF;dsimp only;omega,by unfold FF;dsimp only;omega⟩
 have k3:=g ⟨b.x0,b.y1⟩ ⟨⟨by unfold FF;dsimp only;omega,by unfold FF;dsimp only;omega⟩,by unfold FF;dsimp only;omega,by unfold FF;dsimp only;omega⟩
 have k4:=g ⟨b.x1,b.y1⟩ ⟨⟨by unfold FF;dsimp only;omega,by unfold FF;dsimp only;omega⟩,by unfold FF;dsimp only;omega,by unfold FF;dsimp only;omega⟩
 omega
theorem bdR_far{s:Sh}(ha:PB FF s.a)(hc:PB FF s.c)(hr:1<=s.r/\s.r<=FF):bdR s=s.r+rupF (distI s.a s.c):=by
 have hd:=dist_far ha hc
 have q:=rupF_sq (v:=distI s.a s.c) (by omega)
 obtain⟨⟨a1,a2⟩,a3,a4⟩:=ha
 obtain⟨⟨c1,c2⟩,c3,c4⟩:=hc
 unfold FF at *
 unfold bdR
 have s1:=sq_nn (s.a.x-s.c.x)
 have s2:=sq_nn (s.a.y-s.c.y)
 have e:(s.a.x-s.c.x)*(s.a.x-s.c.x)+(s.a.y-s.c.y)*(s.a.y-s.c.y)=distI s.a s.c:=rfl
 rw[W_id (x:=s.a.x-s.c.x) (by omega) (by omega),W_id (x:=s.a.y-s.c.y) (by omega) (by omega),W_id (x:=(s.a.x-s.c.x)*(s.a.x-s.c.x)) (by omega) (by omega),W_id (x:=(s.a.y-s.c.y)*(s.a.y-s.c.y)) (by omega) (by omega),e,W_id (x:=distI s.a s.c) (by omega) (by omega)]
 exact W_id (by omega) (by omega)
theorem hasN_true{g add:Nat->Bool}:∀{n:Nat},foldN (hasN g add) false n=true->∃i,i<n/\g i=true/\add i=true
 |0,h=>by cases h
 |n+1,h=>by
  have h':hasN g add n (foldN (hasN g add) false n)=true:=h
  unfold hasN at h'
  cases hg:g n with
  |true=>rw[hg]at h';exact⟨n,Nat.lt_succ_self n,hg,h'⟩
  |false=>
   rw[hg]at h'
   obtain⟨i,hi,h1,h2⟩:=hasN_true (n:=n) h'
   exact⟨i,by omega,h1,h2⟩
theorem ctr_keep{l:Ctr}{i:Nat}(q:Bool×B4)(c:B4)(h:Cov q c):Cov (bdO l i q) c:=foldN_keep (g:=bdI l i) (λk q c _ h=>(cov_tk _).2 c h) h
theorem ctr_cov{l:Ctr}{P:P2->Prop}(hP:∀p,P p->PB FF p)(h:FinC P l):InC (foldN (bdO l) bdQ l.n).2 l/\((∃i k,i<l.n/\k<l.m i)->(foldN (bdO l) bdQ l.n).1=true):=by
 have key:∀i k,i<l.n->k<l.m i->Cov (foldN (bdO l) bdQ l.n) (aroundF (l.p i k) (l.p i k) 0):=λi k hi hk=>
  foldN_cov (g:=bdO l) (λi q c _ h=>ctr_keep q c h) hi (λq=>foldN_cov (g:=bdI l i) (λk q c _ h=>(cov_tk _).2 c h) hk (λq=>(cov_tk _).1) q) bdQ
 refine⟨λi hi k hk=>(key i k hi hk).2.has (spot_aro (hP _ ((h.2 i hi).2 k hk))),λ⟨i,k,hi,hk⟩=>(key i k hi hk).1⟩
theorem ctr_gd{l:Ctr}{P:P2->Prop}(hP:∀p,P p->PB FF p)(h:FinC P l):Gd (foldN (bdO l) bdQ l.n):=
 foldN_gd (g:=bdO l) (λi q hi hq=>foldN_gd (g:=bdI l i) (λk q hk hq _=>tk_fits (aro_fits (hP _ ((h.2 i hi).2 k hk)) (hP _ ((h.2 i hi).2 k hk)) (by omega) (by omega)) hq) hq) (λh=>by cases h)
theorem ctr_no{l:Ctr}{P:P2->Prop}(hP:∀p,P p->PB FF p)(h:FinC P l)(k:(foldN (bdO l) bdQ l.n).1=false):∀i,i<l.n->l.m i=0:=λi hi=>by
 rcases Nat.eq_zero_or_pos (l.m i)with z|z
 ·exact z
 ·rw[(ctr_cov hP h).2 ⟨i,0,hi,z⟩]at k;cases k
theorem fine_bnd{B:Int}(hB:B<=FF):∀(s:Shp) (d:Int),Fine (PB B) s d->(∀p,PB FF p->hasF s p=true->(bndF s).2=true/\hasI (bndF s).1 p)/\((bndF s).2=true->Fits (bndF s).1):=by
 intro s
 induction s with
 |nil=>intro d h;exact h.elim
 |mk k a b c r l n add sub ih=>
  intro d h
  rcases h with⟨rfl,rfl,rfl,rfl,rfl,ha,hr⟩|⟨rfl,rfl,rfl,rfl,ha,hb,hr⟩|⟨rfl,rfl,rfl,rfl,ha,hb,hr,hab⟩|⟨rfl,rfl,rfl,ha,hb,hc,hr,ok⟩|⟨rfl,rfl,rfl,rfl,rfl,rfl,hl⟩|⟨rfl,rfl,rfl,rfl,rfl,rfl,hd,hn,hs⟩
  ·have ha:=PB_F hB ha
   have hr:=wid_bd hr
   refine⟨λp hp h=>⟨rfl,?_⟩,λ_=>aro_fits ha ha (by omega) (by omega)⟩
   have h':discHas p a r=true:=h
   rw[discHas_eq (PB_R hp) (PB_R ha) hr.1 (by omega),decide_eq_true_eq]at h'
   exact(aro_has ha ha (by omega) (by omega) hp).2 (dist_box (by omega) h')
  ·have ha:=PB_F hB ha
   have hb:=PB_F hB hb
   have hr:=wid_bd hr
   refine⟨λp hp h=>⟨rfl,?_⟩,λ_=>aro_fits ha hb (by omega) (by omega)⟩
   have h':lineHas p a b r=true:=h
   rw[lineHas_eq (PB_R hp) (PB_R ha) (PB_R hb) hr.1 (by omega)]at h'
   exact(aro_has ha hb (by omega) (by omega) hp).2 (onS_box (by omega) (lineI_iff.1 h'))
  ·have ha:=PB_F hB ha
   have hb:=PB_F hB hb
   have hr:=wid_bd hr
   refine⟨λp hp h=>⟨rfl,?_⟩,λ_=>aro_fits ha hb (by omega) (by omega)⟩
   have h':barHas p a b r=true:=h
   rw[barHas_eq (PB_R hp) (PB_R ha) (PB_R hb) (by omega)]at h'
   exact(aro_has ha hb (by omega) (by omega) hp).2 (onS_box (by omega) (lineI_iff.1 (bar_line h')))
  ·have ha:=PB_F hB ha
   have hb:=PB_F hB hb
   have hc:=PB_F hB hc
   have hr:=wid_bd hr
   have hd:=dist_far ha hc
   have q:=rupF_sq (v:=distI a c) (by omega)
   have e:(bndF (.mk 5 a b c r zeC 0 add sub)).1=aroundF c c (r+rupF (distI a c)):=by
    show aroundF c c (bdR ⟨5,a,b,c,r,zeC,0,noF⟩)=_
    rw[bdR_far (s:=⟨5,a,b,c,r,zeC,0,noF⟩) ha hc hr]
   rw[e]
   refine⟨λp hp h=>⟨rfl,?_⟩,λ_=>aro_fits hc hc (by omega) (by omega)⟩
   have h':ringHas p c a b r=true:=h
   rw[ringHas_eq (PB_R hp) (PB_R hc) (PB_R ha) (PB_R hb) ok hr.1 (by omega) (by have:=dist_far hp hc;omega) (by omega)]at h'
   have:=ring_d ok q.1 (by omega) q.2.2 h'
   rw[Int.add_comm]at this
   exact(aro_has hc hc (by omega) (by omega) hp).2 (dist_box (by omega) this)
  ·have hP:∀p,PB B p->PB FF p:=λp h=>PB_F hB h
   have cv:=ctr_cov hP hl
   refine⟨λp hp h=>?_,λh=>ctr_gd hP hl h⟩
   have h':polyHasF p l=true:=h
   have hC:PRC l:=⟨λi hi k hk=>PB_R (hP _ ((hl.2 i hi).2 k hk))⟩
   refine⟨?_,poly_has hC (PB_R hp) cv.1 h'⟩
   show(foldN (bdO l) bdQ l.n).1=true
   cases k:(foldN (bdO l) bdQ l.n).1 with
   |true=>rfl
   |false=>
    have z:=ctr_no hP hl k
    have:=poly_has (U:=⟨p.x+1,p.y,p.x,p.y⟩) hC (PB_R hp) (λi hi k hk=>by rw[z i hi]at hk;omega) h'
    unfold hasI at this
    dsimp only at this
    omega
  ·have keep:∀(i:Nat) (q:Bool×B4) (c:B4),i<n->Cov q c->Cov (bif !(add i)then q else bif (bndF (sub i)).2 then(true,tkF q.1 q.2 (bndF (sub i)).1)else q) c:=λi q c _ h=>by
    cases add i with
    |false=>exact h
    |true=>
     cases (bndF (sub i)).2 with
     |false=>exact h
     |true=>exact(cov_tk _).2 c h
   refine⟨λp hp h=>?_,λh=>?_⟩
   ·have h':(runN (λt (_:Bool)=>bif hasF (sub (n-1-t)) p then(false,add (n-1-t))else(true,false)) false n).2=true:=h
    rw[has_fold (λi=>hasF (sub i) p) add n]at h'
    obtain⟨i,hi,h1,h2⟩:=hasN_true h'
    have hi':=(ih i (d+1) (hs i hi)).1 p hp h1
    have cv:=foldN_cov (g:=λi (q:Bool×B4)=>bif !(add i)then q else bif (bndF (sub i)).2 then(true,tkF q.1 q.2 (bndF (sub i)).1)else q) keep hi (b:=(bndF (sub i)).1) (λq=>by
     rw[h2,hi'.1]
     exact(cov_tk _).1) bdQ
    exact⟨cv.1,cv.2.has hi'.2⟩
   ·refine foldN_gd (g:=λi (q:Bool×B4)=>bif !(add i)then q else bif (bndF (sub i)).2 then(true,tkF q.1 q.2 (bndF (sub i)).1)else q) (n:=n) (a:=bdQ) (λi q hi hq=>?_) (λh=>by cases h) h
    cases add i with
    |false=>exact hq
    |true=>
     cases hk:(bndF (sub i)).2 with
     |false=>exact hq
     |true=>exact λ_=>tk_fits ((ih i (d+1) (hs i hi)).2 hk) hq
def kindS:Shp->Int
 |.nil=>0
 |.mk k _ _ _ _ _ _ _ _=>k
theorem Fits_BR{b:B4}(h:Fits b):BR b:=by
 obtain⟨b1,b2,b3,b4,b5,b6⟩:=h
 exact⟨⟨by omega,by omega⟩,⟨by omega,by omega⟩,⟨by omega,by omega⟩,⟨by omega,by omega⟩⟩
theorem fine_off{B:Int}(hB:B<=FF){b:B4}(hb:Fits b):∀(s:Shp) (d:Int),Fine (PB B) s d->kindS s≠4->kindS s≠6->((bndF s).2=true->Off (bndF s).1 b)->classF s b=0:=by
 intro s d h h4 h6 ho
 cases s with
 |nil=>exact h.elim
 |mk k a b' c r l n add sub=>
  have R:=Fits_BR hb
  rcases h with⟨rfl,rfl,rfl,rfl,rfl,ha,hr⟩|⟨rfl,rfl,rfl,rfl,ha,hb',hr⟩|⟨rfl,rfl,rfl,rfl,ha,hb',hr,hab⟩|⟨rfl,rfl,rfl,ha,hb',hc,hr,ok⟩|⟨rfl,rfl,rfl,rfl,rfl,rfl,hl⟩|⟨rfl,rfl,rfl,rfl,rfl,rfl,hd,hn,hs⟩
  ·have ha:=PB_F hB ha
   have hr:=wid_bd hr
   have o:=aro_off ha ha (by omega) (by omega) hb (ho rfl)
   show discClass b a r=0
   rw[discClass_eq R (PB_R ha) hb.x hb.y hr.1 (by omega),if_pos (near_off hb.x hb.y (by omega) o (.inl rfl))]
  ·have ha:=PB_F hB ha
   have hb':=PB_F hB hb'
   have hr:=wid_bd hr
   have o:=aro_off ha hb' (by omega) (by omega) hb (ho rfl)
   show lineClass b a b' r=0
   rw[lineClass_eq R (PB_R ha) (PB_R hb') hb.x hb.y hr.1 (by omega)]
   exact line_off hb.x hb.y (by omega) o
  ·exact absurd rfl h4
  ·have ha:=PB_F hB ha
   have hb':=PB_F hB hb'
   have hc:=PB_F hB hc
   have hr:=wid_bd hr
   have hd:=dist_far ha hc
   have q:=rupF_sq (v:=distI a c) (by omega)
   have e:(bndF (.mk 5 a b' c r zeC 0 add sub)).1=aroundF c c (r+rupF (distI a c)):=by
    show aroundF c c (bdR ⟨5,a,b',c,r,zeC,0,noF⟩)=_
    rw[bdR_far (s:=⟨5,a,b',c,r,zeC,0,noF⟩) ha hc hr]
   have ho':=ho rfl
   rw[e]at ho'
   have o:=aro_off hc hc (by omega) (by omega) hb ho'
   rw[Int.add_comm]at o
   show ringClass b c a b' r=0
   rw[ringClass_eq R (PB_R hc) (PB_R ha) (PB_R hb') ok hb.x hb.y hr.1 (by omega) (most_far2 hb hc) (by omega)]
   exact ring_off hb.x hb.y ok q.1 (by omega) q.2.2 o
  ·have hP:∀p,PB B p->PB FF p:=λp h=>PB_F hB h
   have cv:=ctr_cov hP hl
   have hC:PRC l:=⟨λi hi k hk=>PB_R (hP _ ((hl.2 i hi).2 k hk))⟩
   show polyClassF b l=0
   cases k:(foldN (bdO l) bdQ l.n).1 with
   |true=>exact poly_off hC R hb.x hb.y cv.1 (ho k)
   |false=>exact poly_no hC R hb.x hb.y (ctr_no hP hl k)
  ·exact absurd rfl h6
structure Sb(q b:B4):Prop where
 fa:b.x0<=q.x0
 x:q.x0<=q.x1
 fb:q.x1<=b.x1
 fc:b.y0<=q.y0
 y:q.y0<=q.y1
 fd:q.y1<=b.y1
theorem Sb.near{q b:B4}(h:Sb q b)(p:P2):nearI b p<=nearI q p:=by
 have:=h.fa;have:=h.fb;have:=h.fc;have:=h.fd;have:=h.x;have:=h.y
 have gx:0<=gapI p.x b.x0 b.x1/\gapI p.x b.x0 b.x1<=gapI p.x q.x0 q.x1:=by unfold gapI;repeat' split<;>omega
 have gy:0<=gapI p.y b.y0 b.y1/\gapI p.y b.y0 b.y1<=gapI p.y q.y0 q.y1:=by unfold gapI;repeat' split<;>omega
 have:=Int.mul_le_mul gx.2 gx.2 gx.1 (by omega)
 have:=Int.mul_le_mul gy.2 gy.2 gy.1 (by omega)
 unfold nearI
 omega
structure Ref(k j:Int):Prop where
 k0:0<=k
 k2:k<=2
 j0:0<=j
 j2:j<=2
 e:k≠1->j=k
theorem fitsBR{b:B4}(hb:Fits b):BR b:=⟨⟨by have:=hb.x0;omega,by have:=hb.x;have:=hb.x1;omega⟩,⟨by have:=hb.y0;omega,by have:=hb.y;have:=hb.y1;omega⟩,⟨by have:=hb.x0;have:=hb.x;omega,by have:=hb.x1;omega⟩,⟨by have:=hb.y0;have:=hb.y;omega,by have:=hb.y1;omega⟩⟩
end Go.Proofs.YtmekpbopoknigaaGreatDoor

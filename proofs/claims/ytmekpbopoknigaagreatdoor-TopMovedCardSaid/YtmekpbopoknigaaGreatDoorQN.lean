import Derived.Test.YtmekpbopoknigaaGreatDoorQM
namespace Go.Proofs.YtmekpbopoknigaaGreatDoor
open Go Go.RowKit Sym
set_option maxRecDepth 100000
def dvL(x:Sh):Dyn.DV:=.one (.row x.n x.f)
def obX(n:Nat)(f:Nat->List Dyn.DC):Sh:=⟨6,ze,ze,ze,0,zeC,n,f⟩
def mkL(n:Nat)(add:Nat->Bool)(sh:Nat->Sh):Sh:=mkSh 6 ze ze ze 0 zeC n add sh
def qL:Dec Sh
 |.one (.row n f)=>some (obX n f,[])
 |_=>none
theorem z5a:zix qL dvL (λ_=>True):=λd x ps h hp=>by
 unfold qL at h;split at h
 ·simp only[Option.some.injEq,Prod.mk.injEq]at h
  obtain⟨rfl,rfl⟩:=h
  exact⟨⟨rfl,λ_ _=>rfl⟩,trivial⟩
 ·cases h
theorem SLe.dvL{x y:Sh}(h:SLe x y):Dyn.DVLe (dvL x) (dvL y):=⟨h.2.2.2.2.2.2.1,h.2.2.2.2.2.2.2⟩
def dtyO(t:TypeId):Bool:=dtyS t||Nat.beq t 41||Nat.beq t 22
def zeq(n:Nat)(add:Nat->Bool)(sub:Nat->Shp):Shp:=.mk 6 ze ze ze 0 zeC n add sub
def nuO:Shp->Nat
 |.nil=>0
 |.mk _ _ _ _ _ _ n _ _=>n
def adO:Shp->Nat->Bool
 |.nil,_=>false
 |.mk _ _ _ _ _ _ _ add _,i=>add i
def suO:Shp->Nat->Shp
 |.nil,_=>.nil
 |.mk _ _ _ _ _ _ _ _ sub,i=>sub i
noncomputable def sbG(sh:Nat->Sh)(i:Nat)(_:Unit):Bool×Unit:=(zj9 (sh i) 0,())
noncomputable def zka(s:Shp):Bool:=bif decide ((nuO s:Int)>20)then false else(runN (λi (_:Unit)=>(zqx (suO s i) 0,())) () (nuO s)).1
noncomputable def tdSb:List Dyn.zb2:=[(14,en2D (qAnd qS PdW) qI λx d=>rB (zj9 x d))]
def sbR:Dyn.St:=mkS 20 [(2,.k (vb false))] []
def sbK:List Nat:=[0,2,3]
theorem z9n:zam (zbx Tryz.f5.body)=[(0,.loop (zab (blkD Tryz.f5.body 0))),(1,blkD Tryz.f5.body 1)]:=by kernel_rfl
theorem sb_b0:zam (zab (blkD Tryz.f5.body 0))=[(1,blkD Tryz.f5.body 1)]:=by kernel_rfl
noncomputable def z8l(s:Shp)(sm:Bool):Shp:=.mk 6 ze ze ze 0 zeC (min (nuO s) 12) (adO s) (λi=>zl4 (suO s i) sm 2)
noncomputable def tdTl:List Dyn.zb2:=[(16,en3D (qAnd qS PdS) qB qI λx q d=>.val (dvS (zpq x q d)))]
def drTl(K:Nat):Bool:=Nat.beq K 16
noncomputable def tlF(add:Nat->Bool)(sh:Nat->Sh)(sm:Bool)(i:Nat):List Dyn.DC:=zbv (add i) (zpq (sh i) sm 2)
def tlK:List Nat:=[0,1,4,5,6]
theorem z7p:zam (zbx Tryz.f7.body)=[(0,.loop (zab (blkD Tryz.f7.body 0))),(1,blkD Tryz.f7.body 1)]:=by kernel_rfl
theorem tl_b0:zam (zab (blkD Tryz.f7.body 0))=[(1,blkD Tryz.f7.body 1)]:=by kernel_rfl
noncomputable def zkq(s:Shp)(b:B4):Int:=bif !(okE (toSh s))then 0 else zf7 s b
noncomputable def zrg(s:Shp)(b:B4):Int:=zax (λi acc=>zek acc (zkq (suO s i) b) (adO s i)) 0 (nuO s)
theorem zyf(s:Shp)(b:B4):zin (toSh s) b=zkq s b:=by unfold zin zkq;rw[zsf]
noncomputable def tdPc:List Dyn.zb2:=[(73,en2D (qAnd qS PdS) qX λx b=>rI (zin x b))]
noncomputable def yl0:Dyn.Tabs:=Dyn.tabs tbF tdPc noD dtyO
theorem z12:Dyn.zal Tryz.prog yl0:=Dyn.zb0 zcy (List.forall_mem_cons.2 ⟨zgc (zbl zgt) zuz λx b h _=>z0u x h.1 b,λ_ h=>by cases h⟩)
noncomputable def pcG(sh:Nat->Sh)(add:Nat->Bool)(b:B4)(i:Nat)(acc:Int):Int:=zek acc (zin (sh i) b) (add i)
def pcS(s:Sh)(b:B4)(acc i:Int):Dyn.St:=mkS 24 [(3,sL 1),(4,.k (vi 0)),(5,sI acc),(8,sH 0 0 s.n),(9,sI s.n),(10,sI i)] [some (.deep [.row s.n s.f]),some (.cells 114 [vi b.x0,vi b.y0,vi b.x1,vi b.y1])]
def pcK:List Nat:=[3,4,5,8,9,10]
noncomputable def pcLp(sh:Nat->Sh)(add:Nat->Bool)(s:Sh)(b:B4):Dyn.Lp:=λid st=>match id with
 |0=>some (.side [zc2 24 [0,1] [] pcK (2 ^ 5+2 ^ 10) st=pcS s b 0 0] (.leaf .normal (pcS s b (zax (pcG sh add b) 0 s.n) s.n)))
 |_=>none
noncomputable def pcB(sh:Nat->Sh)(add:Nat->Bool)(s:Sh)(b:B4)(i:Nat)(acc:Int):Dyn.Out:=
 .ite (decide ((i:Int)<s.n)) (.side [0<=(i:Int)/\(i:Int)<s.n] (.side [PdS (sh i),zbz (sh i).l] (.leaf .normal (pcS s b (zek acc (zin (sh i) b) (add i)) (W (i+1)))))) (.leaf (.exit 0) (pcS s b acc i))
theorem pc_B(n:Nat)(add:Nat->Bool)(sh:Nat->Sh)(b:B4)(i:Nat)(acc:Int):(Dyn.zbm Tryz.prog yl0 (pcLp sh add (mkL n add sh) b) 3 (zab (blkD Tryz.f58.body 0)) .leaf (pcS (mkL n add sh) b acc i)).rl (zeu 24 [0,1] [] pcK [])=pcB sh add (mkL n add sh) b i acc:=by kernel_rfl
theorem z97:zam (zbx Tryz.f58.body)=[(0,.loop (zab (blkD Tryz.f58.body 0))),(1,blkD Tryz.f58.body 1)]:=by kernel_rfl
theorem pc_b0:zam (zab (blkD Tryz.f58.body 0))=[(1,blkD Tryz.f58.body 1)]:=by kernel_rfl
theorem ymx(n:Nat)(add:Nat->Bool)(sh:Nat->Sh)(hn:n<=1000000000)(hP:∀i,i<n->PdS (sh i))(b:B4)(w0:Dyn.Base Tryz.prog)(s:Dyn.St)(o:Dyn.Out)(h:pcLp sh add (mkL n add sh) b 0 s=some o):Dyn.zai Tryz.prog w0 0 (.loop (zab (blkD Tryz.f58.body 0))) s o:=by
 simp only[pcLp,Option.some.injEq]at h
 subst h
 refine zcc λhS=>?_
 refine za9 (fuel:=3) z12 mo (lp:=pcLp sh add (mkL n add sh) b) (by rw[pc_b0];exact zaa (λs o h=>by cases h) zao) (λi acc=>pcS (mkL n add sh) b acc i) n (pcG sh add b) 0 (zeu 24 [0,1] [] pcK []) (zcq 24 _ _ _ _) (λi acc=>pcB sh add (mkL n add sh) b i acc) (λi acc=>pc_B n add sh b i acc) (λi hi=>?_) ?_ (hS▸za0 24 _ _ _ _ s)
 ·refine⟨λ_=>⟨⟨⟨by omega,by show(i:Int)<(n:Int);omega⟩,trivial⟩,⟨hP i hi,zau _,trivial⟩,rfl,?_⟩,λhf=>?_⟩
  ·rw[Wn1 hi hn];exact Dyn.Fits.refl _
  ·rw[decide_eq_false_iff_not]at hf
   exact absurd (show(i:Int)<(n:Int)by omega) hf
 ·refine⟨λht=>?_,λ_=>⟨rfl,Dyn.Fits.refl _⟩⟩
  rw[decide_eq_true_eq]at ht
  exact absurd (show(n:Int)<(n:Int)from ht) (by omega)
theorem pc_O(sh:Nat->Sh)(add:Nat->Bool)(s:Sh)(b:B4):(Dyn.dfun Tryz.prog yl0 (pcLp sh add s b) 3 Tryz.f58 [dvL s,dvX b]).ro Tryz.prog Tryz.f58.results=.side [pcS s b 0 0=pcS s b 0 0] (.leaf (rI (zax (pcG sh add b) 0 s.n))):=by kernel_rfl
theorem pc_lvl(n:Nat)(add:Nat->Bool)(sh:Nat->Sh)(hn:n<=1000000000)(hP:∀i,i<n->PdS (sh i))(b:B4):Dyn.zav Tryz.prog 58 [dvL (mkL n add sh),dvX b] (rI (zax (pcG sh add b) 0 n)):=
 Dyn.zbs (lp:=pcLp sh add (mkL n add sh) b) (fuel:=3) z12 mo Tryz.func58 (by kernel_rfl) (c:=zbx Tryz.f58.body) (by kernel_rfl)
  (λw0=>by rw[z97];exact zaa (ymx n add sh hn hP b w0) (zaa (λs o h=>by cases h) zao))
  (by kernel_rfl) (pc_O sh add _ b) ⟨⟨rfl,trivial⟩,zby rfl⟩
theorem yab:∀s:Shp,ShB s->∀b,Dyn.zav Tryz.prog 58 [dvL (toSh s),dvX b] (rI (zrg s b)):=by
 intro s h b
 cases s with
 |nil=>exact h.elim
 |mk k a b' c r l n add sub=>
  have q:=pc_lvl n add (λi=>toSh (sub i)) h.2.1 (λi hi=>zl0 (h.2.2 i hi)) b
  unfold pcG at q
  simp only[zyf]at q
  exact q
end Go.Proofs.YtmekpbopoknigaaGreatDoor
namespace Go.Proofs.YtmekpbopoknigaaGreatDoor
open Go Go.ChangeShapes Go.WideShapes Go.ChangeAt Go.RowKit Go.Joins Go.Deep
set_option maxRecDepth 100000
section
variable{H:Type}{enc:TypeId×Value->H}{P:Program}{w:World}{base:Nat}{spare:Nat->Bool}{held:Bool}
theorem ygs{tS tK tP tR tL tL1 tQ tE tB tI tQ' tE':TypeId}(T:ShT P tS tK tP tR tL tL1 tQ tE tB tI)(q:P.underlying tQ'=some (.slice tE'))(ec:P.cellsOf tE'=11)
  (he:∃h0 h1:Field,P.underlying tE'=some (.struct #[h0,h1])/\h0.offset=0/\h1.offset=1/\h0.type=tB/\h1.type=tS) {fuel:Nat} {v9:Value} {y:DataW H×List MemPlace} (k6:DataW.trod enc P w base spare held fuel tQ' [v9]=some y) :
  ∃(m:Nat) (add:Nat->Bool) (sub:Nat->Shp),(∀i,i<m->ShW (sub i))/\Dyn.DenC w (λb=>b<w.heap.size) (.row m λi=>zbv (add i) (toSh (sub i))) v9:=by
 obtain⟨h0,h1,he,a0,a1,b0,b1⟩:=he
 rcases DataW.trod_slice q k6 with⟨hv,_⟩|⟨a,len,cap,elems,rest,m,rfl,hv,_,hb,hle,_,hel,hall,_⟩
 ·simp only[List.cons.injEq,and_true]at hv
  subst hv
  exact⟨0,λ_=>false,λ_=>.nil,λi hi=>absurd hi (Nat.not_lt_zero i),.nil _ none 0⟩
 ·simp only[List.cons.injEq,and_true]at hv
  subst hv
  have part:∀i,i<len->∃q:(Bool×Shp)×(Nat->Value),ShW q.1.2/\(∀j,j<11->w.cell? ((a.add (i*11)).add j)=some (q.2 j))/\(∀j,j<11->Dyn.DenC w (λb=>b<w.heap.size) ((zbv q.1.1 (toSh q.1.2)).getD j default) (q.2 j)):=λi hi=>by
   have key:=hall i hi
   rw[ec,List.getElem?_eq_getElem (by omega)]at key
   obtain⟨cs',h1',h2'⟩:=Option.bind_eq_some_iff.1 key
   obtain⟨_,hlen',hcell⟩:=World.cells?_some h1'
   obtain⟨ys,n',rfl,_,_,hyl,hfy⟩:=DataW.trod_struct he h2'
   have hyl:ys.length=2:=hyl
   have m0:=hfy 0 h0 rfl
   have m1:=hfy 1 h1 rfl
   rw[List.getElem?_eq_getElem (by omega),b0,a0,T.bc]at m0
   rw[List.getElem?_eq_getElem (by omega),b1,a1,T.sc]at m1
   obtain⟨c,cs'',rfl⟩:∃c cs'',cs'=c::cs'':=by
    match cs',hlen' with
    |c::cs'',_=>exact⟨c,cs'',rfl⟩
   simp only[List.drop_zero,List.take_succ_cons,List.take_zero,List.drop_succ_cons]at m0 m1
   rw[List.take_of_length_le (by simp only[List.length_cons]at hlen';omega)]at m1
   obtain⟨q,hq,_⟩:=DataW.trod_bool T.b m0
   simp only[List.cons.injEq,and_true]at hq
   subst hq
   obtain⟨s',hW',hD'⟩:=z9g T n' _ _ m1
   refine⟨((q,s'),λj=>((.bool q:Value)::cs'').getD j default),hW',λj hj=>?_,λj hj=>?_⟩
   ·rw[hcell j hj]
    show _=some ((Value.bool q::cs'').getD j default)
    rw[List.getD_eq_getElem?_getD,List.getElem?_eq_getElem (by omega)];rfl
   ·exact zwg (ds:=zbv q (toSh s')) (us:=.bool q::cs'') ⟨.p _ rfl,hD'⟩ (by omega)
  by_cases hz:len=0
  ·subst hz
   exact⟨0,λ_=>false,λ_=>.nil,λi hi=>absurd hi (Nat.not_lt_zero i),.nil _ (some a) cap⟩
  ·haveI:Inhabited ((Bool×Shp)×(Nat->Value)):=⟨((false,.nil),λ_=>default)⟩
   obtain⟨g,hg⟩:=choose_lt part
   have z0:=(hg 0 (by omega)).2.1 0 (by decide)
   have za:(a.add (0*11)).add 0=a.add 0:=rfl
   rw[za]at z0
   obtain⟨hlt,hsp⟩:=zn3 z0
   have hsp:=hsp rfl
   obtain⟨b,off,sp⟩:=a
   dsimp only at hsp
   subst hsp
   simp only[zqk]at hg hlt
   exact⟨len,λi=>(g i).1.1,λi=>(g i).1.2,λi hi=>(hg i hi).1,.row len _ b off cap 11 (λi j=>(g i).2 j) hle hlt (λi hi=>⟨rfl,λj hj=>(hg i hi).2.1 j hj⟩) (λi j hi hj=>(hg i hi).2.2 j hj)⟩
theorem open_O{tS tK tP tR tL tL1 tQ tE tB tI tQ' tE':TypeId}(T:ShT P tS tK tP tR tL tL1 tQ tE tB tI)(q:P.underlying tQ'=some (.slice tE'))(ec:P.cellsOf tE'=11)
  (he:∃h0 h1:Field,P.underlying tE'=some (.struct #[h0,h1])/\h0.offset=0/\h1.offset=1/\h0.type=tB/\h1.type=tS) {r:Reach} {b0:Nat} {v:Value} {d:DataW H} {ps:List MemPlace} (hval:Value.okWide P w r b0 tQ' v) (hd:DataW.Trod enc P w base spare held tQ' v d ps) :
  ∃s:Shp,ShW s/\Dyn.DenV w (λb=>b<w.heap.size) (dvL (toSh s)) v:=by
 obtain⟨a,len,cap,rfl⟩:=okWide_slice q hval
 obtain⟨fuel,hf⟩:=hd
 obtain⟨m,add,sub,hW,hD⟩:=ygs T q ec he hf
 exact⟨zeq m add sub,hW,hD⟩
end
end Go.Proofs.YtmekpbopoknigaaGreatDoor
namespace Go.Proofs.YtmekpbopoknigaaGreatDoor
open Go Go.RowKit Sym
set_option maxRecDepth 100000
def ruM(a:Int×Int):Int:=W ((W (a.1+a.2)).tdiv 2)
def zhk(v:Int)(a:Int×Int):Int×Int:=(bif decide (W (ruM a*ruM a)>=v)then a.1 else W (ruM a+1),bif decide (W (ruM a*ruM a)>=v)then ruM a else a.2)
def ruG(v:Int)(_:Nat)(a:Int×Int):Int×Int:=zhk v a
def zst(v:Int):Nat->Int×Int->Nat
 |0,_=>0
 |f+1,a=>if a.1<a.2 then zst v f (zhk v a)+1 else 0
def ruA:Int×Int:=(0,2147483648)
def ruN(v:Int):Nat:=zst v 32 ruA
def rupF(v:Int):Int:=(zax (ruG v) ruA (ruN v)).1
def ruI(a:Int×Int):Prop:=0<=a.1/\a.1<=a.2/\a.2<=2147483648
theorem yj1{a:Int×Int}(h:ruI a):ruM a=(a.1+a.2)/2:=by
 obtain⟨h1,h2,h3⟩:=h
 unfold ruM
 rw[W_id (x:=a.1+a.2) (by omega) (by omega),Int.tdiv_eq_ediv_of_nonneg (by omega),W_id (by omega) (by omega)]
theorem z9o{v:Int}{a:Int×Int}(h:ruI a)(hlt:a.1<a.2):ruI (zhk v a)/\2*((zhk v a).2-(zhk v a).1)<=a.2-a.1:=by
 have m:=yj1 h
 obtain⟨h1,h2,h3⟩:=h
 have w:W (ruM a+1)=ruM a+1:=by rw[m];exact W_id (by omega) (by omega)
 unfold zhk ruI
 rw[w]
 cases decide (W (ruM a*ruM a)>=v)
 ·exact⟨⟨by dsimp only[cond_false];omega,by dsimp only[cond_false];omega,by dsimp only[cond_false];omega⟩,by dsimp only[cond_false];omega⟩
 ·exact⟨⟨by dsimp only[cond_true];omega,by dsimp only[cond_true];omega,by dsimp only[cond_true];omega⟩,by dsimp only[cond_true];omega⟩
theorem zvo(v:Int)(a:Int×Int):∀k,zax (ruG v) a (k+1)=zax (ruG v) (zhk v a) k
 |0=>rfl
 |k+1=>by
  show ruG v (k+1) (zax (ruG v) a (k+1))=ruG v k (zax (ruG v) (zhk v a) k)
  rw[zvo v a k];rfl
theorem yj0(v:Int):∀(f:Nat) (a:Int×Int),ruI a->a.2-a.1<2 ^ f->(∀k,k<zst v f a->(zax (ruG v) a k).1<(zax (ruG v) a k).2)/\¬(zax (ruG v) a (zst v f a)).1<(zax (ruG v) a (zst v f a)).2
 |0,a,h,hf=>by
  refine⟨λk hk=>absurd hk (Nat.not_lt_zero k),?_⟩
  show ¬a.1<a.2
  have:(2:Int) ^ 0=1:=by decide
  omega
 |f+1,a,h,hf=>by
  by_cases hlt:a.1<a.2
  ·have st:=z9o (v:=v) h hlt
   have e:(2:Int) ^ (f+1)=2*2 ^ f:=by rw[Int.pow_succ,Int.mul_comm]
   have ih:=yj0 v f (zhk v a) st.1 (by omega)
   have c:zst v (f+1) a=zst v f (zhk v a)+1:=by simp only[zst];rw[if_pos hlt]
   rw[c]
   refine⟨λk hk=>?_,?_⟩
   ·cases k with
    |zero=>exact hlt
    |succ k=>rw[zvo];exact ih.1 k (by omega)
   ·rw[zvo];exact ih.2
  ·have c:zst v (f+1) a=0:=by simp only[zst];rw[if_neg hlt]
   rw[c]
   exact⟨λk hk=>absurd hk (Nat.not_lt_zero k),hlt⟩
theorem z2h(v:Int):(∀k,k<ruN v->(zax (ruG v) ruA k).1<(zax (ruG v) ruA k).2)/\¬(zax (ruG v) ruA (ruN v)).1<(zax (ruG v) ruA (ruN v)).2:=yj0 v 32 ruA ⟨by decide,by decide,by decide⟩ (by decide)
def ruS(v:Int)(a:Int×Int):Dyn.St:=mkS 22 [(0,sI v),(2,.k (vi 0)),(3,sI a.1),(4,sI a.2)] []
def ruK:List Nat:=[0,2,3,4]
def ruB(v:Int)(a:Int×Int):Dyn.Out:=.ite (decide (a.1<a.2)) (.leaf .normal (ruS v (zhk v a))) (.leaf (.exit 0) (ruS v a))
theorem ru_B(v:Int)(a:Int×Int):(Dyn.zbm Tryz.prog z4w Dyn.noLp 3 (zab (blkD Tryz.f85.body 0)) .leaf (ruS v a)).rl (zeu 22 [] [] ruK [2])=ruB v a:=by kernel_rfl
def ruLp(v:Int):Dyn.Lp:=λid st=>match id with
 |0=>some (.side [zc2 22 [] [] ruK (2 ^ 3+2 ^ 4) st=ruS v ruA] (.leaf .normal (ruS v (zax (ruG v) ruA (ruN v)))))
 |_=>none
theorem z9p:zam (zbx Tryz.f85.body)=[(0,.loop (zab (blkD Tryz.f85.body 0))),(1,blkD Tryz.f85.body 1)]:=by kernel_rfl
theorem ru_b0:zam (zab (blkD Tryz.f85.body 0))=[(1,blkD Tryz.f85.body 1)]:=by kernel_rfl
theorem ymk(v:Int)(w0:Dyn.Base Tryz.prog)(st:Dyn.St)(o:Dyn.Out)(h:ruLp v 0 st=some o):Dyn.zai Tryz.prog w0 0 (.loop (zab (blkD Tryz.f85.body 0))) st o:=by
 simp only[ruLp,Option.some.injEq]at h
 subst h
 refine zcc λhS=>?_
 refine za9 (fuel:=3) zp1 mo (lp:=Dyn.noLp) (by rw[ru_b0];exact zaa (λs o h=>by cases h) zao) (λ_ a=>ruS v a) (ruN v) (ruG v) ruA (zeu 22 [] [] ruK [2]) (zcq 22 _ _ _ _) (λ_ a=>ruB v a) (λ_ a=>ru_B v a) (λi hi=>?_) ?_ (hS▸za0 22 _ _ _ _ st)
 ·exact⟨λ_=>⟨rfl,Dyn.Fits.refl _⟩,λhf=>absurd ((z2h v).1 i hi) (by simpa using hf)⟩
 ·exact⟨λht=>absurd (by simpa using ht) (z2h v).2,λ_=>⟨rfl,Dyn.Fits.refl _⟩⟩
theorem z9q(v:Int):Dyn.zav Tryz.prog 85 [dvI v] (rI (rupF v)):=
 Dyn.zbs (lp:=ruLp v) (fuel:=3) (X:=z4w) zp1 mo Tryz.func85 (by kernel_rfl) (c:=zbx Tryz.f85.body) (by kernel_rfl)
  (λw0=>by rw[z9p];exact zaa (ymk v w0) (zaa (λs o h=>by cases h) zao))
  (by kernel_rfl) (O:=.side [ruS v ruA=ruS v ruA] (.leaf (rI (rupF v)))) (by kernel_rfl) ⟨⟨rfl,trivial⟩,rfl⟩
def tkF(f:Bool)(a b:B4):B4:=⟨bif f then imin a.x0 b.x0 else b.x0,bif f then imin a.y0 b.y0 else b.y0,bif f then imax a.x1 b.x1 else b.x1,bif f then imax a.y1 b.y1 else b.y1⟩
def bxV(b:B4):List Value:=[vi b.x0,vi b.y0,vi b.x1,vi b.y1]
def tkL(f:Bool)(a:B4):Dyn.Lent:=[(4,[vb f]),(114,bxV a)]
theorem tk_O(f:Bool)(a b:B4):(Dyn.zsd Tryz.prog z4w Dyn.noLp 3 Tryz.f86 (tkL f a) [.d (dvX b),.lp 0 0,.lp 1 0]).rx Tryz.prog (tkL f a) Tryz.f86.results
  = .ite f (.leaf (.tuple ⟨[]⟩) [[vb true],bxV (tkF true a b)]) (.leaf (.tuple ⟨[]⟩) [[vb true],bxV (tkF false a b)]):=by kernel_rfl
theorem ylx(f:Bool)(a b:B4):Dyn.zlq Tryz.prog 86 [.d (dvX b),.lp 0 0,.lp 1 0] (tkL f a) (.tuple ⟨[]⟩) [[vb true],bxV (tkF f a b)]:=
 Dyn.zm3 (lp:=Dyn.noLp) (fuel:=3) (X:=z4w) zp1 mo Tryz.func86 (by kernel_rfl) (c:=zbx Tryz.f86.body) (by kernel_rfl) (λw0=>Dyn.zcl _ w0)
  (by kernel_rfl) (by kernel_rfl) (by kernel_rfl) (tk_O f a b) ⟨λh=>by subst h;exact⟨rfl,rfl⟩,λh=>by subst h;exact⟨rfl,rfl⟩⟩
def enTk:List Dyn.LA->Dyn.Lent->Option (Value×List (List Value)×List Prop)
 |[.d u,.lp 0 0,.lp 1 0],[(t,[.bool f]),(t2,[.int .i64 x0,.int .i64 y0,.int .i64 x1,.int .i64 y1])]=>match aX u,Nat.beq t 4,Nat.beq t2 114 with
  |some b,true,true=>some (.tuple ⟨[]⟩,[[vb true],bxV (tkF f ⟨x0,y0,x1,y1⟩ b)],[])
  |_,_,_=>none
 |_,_=>none
theorem ydp{P:Program}{K:Nat}{u u':Dyn.DV}{l:List Dyn.LA}{lent:Dyn.Lent}{r:Value}{o:List (List Value)}(h1:Dyn.DVLe u u')(k:Dyn.zlq P K (.d u'::l) lent r o):Dyn.zlq P K (.d u::l) lent r o:=λw F bs us hF hn hd hl hden=>k w F bs us hF hn hd hl (by
 cases us with
 |nil=>exact hden
 |cons x us=>exact⟨Dyn.zjp h1 hden.1,hden.2⟩)
theorem yn8:Dyn.zjo Tryz.prog (86,enTk):=λas' lent u out ps h hp=>by
 dsimp only at h
 unfold enTk at h
 split at h
 ·rename_i t f t2 x0 y0 x1 y1
  split at h
  ·rename_i b hb ht ht2
   have e1:=Nat.eq_of_beq_eq_true ht
   have e2:=Nat.eq_of_beq_eq_true ht2
   subst e1;subst e2
   simp only[Option.some.injEq,Prod.mk.injEq]at h
   obtain⟨rfl,rfl,rfl⟩:=h
   exact ydp (yde hb) (ylx f ⟨x0,y0,x1,y1⟩ b)
  ·cases h
 ·cases h
def BdOk(x:Sh)(g:Sh->B4×Bool):Prop:=Dyn.zav Tryz.prog 69 [dvS x] (.tup [dvX (g x).1,dvB (g x).2])
def tdBd(Pd:Sh->Prop)(g:Sh->B4×Bool):List Dyn.zb2:=[(85,en1D qI λv=>rI (rupF v)),(69,en1D (qAnd qS Pd) λx=>.tup [dvX (g x).1,dvB (g x).2])]
def drBd(K:Nat):Bool:=Nat.beq K 86
def z84(Pd:Sh->Prop)(g:Sh->B4×Bool):Dyn.Tabs:=Dyn.z4v tbF (tdBd Pd g) [(86,enTk)] drBd dtyS true
theorem zp2{Pd:Sh->Prop}{g:Sh->B4×Bool}(ih:∀x,Pd x->BdOk x g):Dyn.zal Tryz.prog (z84 Pd g):=
 Dyn.zna zcy (List.forall_mem_cons.2 ⟨zfe zz5 λv _=>z9q v,List.forall_mem_cons.2 ⟨zfe (zbl zgt) λx h=>ih x h.1,λ_ h=>by cases h⟩⟩) (List.forall_mem_cons.2 ⟨yn8,λ_ h=>by cases h⟩)
def bdQ:Bool×B4:=(false,⟨0,0,0,0⟩)
def bdI(l:Ctr)(i k:Nat)(q:Bool×B4):Bool×B4:=(true,tkF q.1 q.2 (zct (l.p i k) (l.p i k) 0))
def bdO(l:Ctr)(i:Nat)(q:Bool×B4):Bool×B4:=zax (bdI l i) q (l.m i)
def bdP(g:Sh->B4×Bool)(sh:Nat->Sh)(add:Nat->Bool)(i:Nat)(q:Bool×B4):Bool×B4:=bif !(add i)then q else bif (g (sh i)).2 then(true,tkF q.1 q.2 (g (sh i)).1)else q
def sFn:Dyn.SV:=.v (.func (.func 86) ⟨[]⟩ ⟨[.pointer (some ⟨4,0,none⟩),.pointer (some ⟨3,0,none⟩)]⟩)
def bdH(s:Sh)(q:Bool×B4):List (Option Dyn.HE):=[some (.deep (cS s)),some (.cells 37 (shV 0 8 s)),some (.cells 114 [vi 0,vi 0,vi 0,vi 0]),some (.cells 114 (bxV q.2)),some (.cells 4 [vb q.1])]
def bdL:List (Nat×Dyn.SV):=[(1,sL 1),(2,sL 2),(3,.k (vb false)),(6,sL 3),(7,sL 4),(8,sFn)]
def bdS(s:Sh)(q:Bool×B4)(i:Int):Dyn.St:=mkS 114 (bdL++[(72,sH 0 8 s.l.n),(73,sI s.l.n),(74,sI i)]) (bdH s q)
def bdT(s:Sh)(q:Bool×B4)(i j:Int):Dyn.St:=mkS 114 (bdL++[(10,sH 5 0 (s.l.m i.toNat)),(72,sH 0 8 s.l.n),(73,sI s.l.n),(74,sI i),(78,sH 5 0 (s.l.m i.toNat)),(79,sI (s.l.m i.toNat)),(80,sI j)]) (bdH s q++[some (.deep [cRow (s.l.m i.toNat) (s.l.p i.toNat)])])
def bdU(s:Sh)(q:Bool×B4)(i:Int):Dyn.St:=mkS 114 (bdL++[(92,sH 0 9 s.n),(93,sI s.n),(94,sI i)]) (bdH s q)
def bdK0:List Nat:=[1,2,3,6,7,8,72,73,74]
def bdK1:List Nat:=[1,2,3,6,7,8,10,72,73,74,78,79,80]
def bdK2:List Nat:=[1,2,3,6,7,8,92,93,94]
def accB(st:Dyn.St):Bool×B4:=match st.heap.getD 3 none,st.heap.getD 4 none with
 |some (.cells _ [.int _ x0,.int _ y0,.int _ x1,.int _ y1]),some (.cells _ [.bool f])=>(f,⟨x0,y0,x1,y1⟩)
 |_,_=>bdQ
def bdLp(g:Sh->B4×Bool)(sh:Nat->Sh)(add:Nat->Bool)(s:Sh):Dyn.Lp:=λid st=>match id with
 |1=>some (.side [zc2 114 [0,1,2,4,5] [] bdK0 (2 ^ 74) st=bdS s bdQ 0] (.leaf .normal (bdS s (zax (bdO s.l) bdQ s.l.n) s.l.n)))
 |3=>
  let q:=accB st
  let i:=intD (st.slots.getD 74 .junk)
  some (.side [zc2 114 [0,1,2,3,4] [10] bdK1 (2 ^ 80) st=bdT s q i 0,0<=i/\i<s.l.n] (.leaf .normal (bdT s (bdO s.l i.toNat q) i (s.l.m i.toNat))))
 |5=>
  let q:=accB st
  some (.side [zc2 114 [0,1,2,3,4] [] bdK2 (2 ^ 94) st=bdU s q 0] (.leaf .normal (bdU s (zax (bdP g sh add) q s.n) s.n)))
 |_=>none
def bdBi(s:Sh)(q:Bool×B4)(i j:Nat):Dyn.Out:=
 .ite (decide ((j:Int)<s.l.m i)) (.side [0<=(j:Int)/\(j:Int)<s.l.m i] (.leaf .normal (bdT s (bdI s.l i j q) i (W (j+1))))) (.leaf (.exit 3) (bdT s q i j))
def bdBo(s:Sh)(q:Bool×B4)(i:Nat):Dyn.Out:=
 .ite (decide ((i:Int)<s.l.n)) (.side [0<=(i:Int)/\(i:Int)<s.l.n] (.side [bdT s q i 0=bdT s q i 0,0<=(i:Int)/\(i:Int)<s.l.n] (.leaf .normal (bdS s (bdO s.l i q) (W (i+1)))))) (.leaf (.exit 1) (bdS s q i))
def bdBp(Pd:Sh->Prop)(g:Sh->B4×Bool)(sh:Nat->Sh)(add:Nat->Bool)(s:Sh)(q:Bool×B4)(i:Nat):Dyn.Out:=
 .ite (decide ((i:Int)<s.n)) (.side [0<=(i:Int)/\(i:Int)<s.n] (.ite (!(add i)) (.leaf .normal (bdU s q (W (i+1)))) (.side [Pd (sh i),zbz (sh i).l] (.ite (g (sh i)).2 (.leaf .normal (bdU s (true,tkF q.1 q.2 (g (sh i)).1) (W (i+1)))) (.leaf .normal (bdU s q (W (i+1)))))))) (.leaf (.exit 5) (bdU s q i))
theorem bd_Bi(Pd:Sh->Prop)(g:Sh->B4×Bool)(sh:Nat->Sh)(add:Nat->Bool)(s:Sh)(q:Bool×B4)(i j:Nat):(Dyn.zbm Tryz.prog (z84 Pd g) (bdLp g sh add s) 3 (zab (blkD Tryz.f69.body 3)) .leaf (bdT s q i j)).rl (zeu 114 [0,1,2,3,4] [10] bdK1 [])=bdBi s q i j:=by kernel_rfl
theorem bd_Bo(Pd:Sh->Prop)(g:Sh->B4×Bool)(sh:Nat->Sh)(add:Nat->Bool)(s:Sh)(q:Bool×B4)(i:Nat):(Dyn.zbm Tryz.prog (z84 Pd g) (bdLp g sh add s) 3 (zab (blkD Tryz.f69.body 1)) .leaf (bdS s q i)).rl (zeu 114 [0,1,2,3,4] [] bdK0 [])=bdBo s q i:=by kernel_rfl
theorem bd_Bp(Pd:Sh->Prop)(g:Sh->B4×Bool)(k:Int)(a b c:P2)(r:Int)(l:Ctr)(n:Nat)(add:Nat->Bool)(sh:Nat->Sh)(q:Bool×B4)(i:Nat):(Dyn.zbm Tryz.prog (z84 Pd g) (bdLp g sh add (mkSh k a b c r l n add sh)) 3 (zab (blkD Tryz.f69.body 5)) .leaf (bdU (mkSh k a b c r l n add sh) q i)).rl (zeu 114 [0,1,2,3,4] [] bdK2 [])=bdBp Pd g sh add (mkSh k a b c r l n add sh) q i:=by kernel_rfl
theorem yc0:zam (zbx Tryz.f69.body)=[(0,blkD Tryz.f69.body 0),(1,.loop (zab (blkD Tryz.f69.body 1))),(2,blkD Tryz.f69.body 2),(3,.loop (zab (blkD Tryz.f69.body 3))),(4,blkD Tryz.f69.body 4),(5,.loop (zab (blkD Tryz.f69.body 5))),(6,blkD Tryz.f69.body 6)]:=by kernel_rfl
theorem bd_b1:zam (zab (blkD Tryz.f69.body 1))=[(2,blkD Tryz.f69.body 2),(3,.loop (zab (blkD Tryz.f69.body 3))),(4,blkD Tryz.f69.body 4)]:=by kernel_rfl
theorem bd_b3:zam (zab (blkD Tryz.f69.body 3))=[(4,blkD Tryz.f69.body 4)]:=by kernel_rfl
theorem bd_b5:zam (zab (blkD Tryz.f69.body 5))=[(6,blkD Tryz.f69.body 6)]:=by kernel_rfl
theorem z4a{Pd:Sh->Prop}{g:Sh->B4×Bool}(ih:∀x,Pd x->BdOk x g)(sh:Nat->Sh)(add:Nat->Bool)(s:Sh)(hl:CtrB s.l)(w0:Dyn.Base Tryz.prog)(st:Dyn.St)(o:Dyn.Out)
  (h:bdLp g sh add s 3 st=some o):Dyn.zai Tryz.prog w0 3 (.loop (zab (blkD Tryz.f69.body 3))) st o:=by
 simp only[bdLp,Option.some.injEq]at h
 subst h
 refine zdv λhS hi=>?_
 revert hS hi
 generalize intD (st.slots.getD 74 .junk)=i'
 generalize accB st=q
 intro hS hi
 obtain⟨i,rfl⟩:∃i:Nat,i'=(i:Int):=⟨i'.toNat,by omega⟩
 have hm:s.l.m i<=1000000000:=hl.2 i (by omega)
 refine za9 (fuel:=3) (zp2 ih) mo (lp:=bdLp g sh add s) (by rw[bd_b3];exact zaa (λs o h=>by cases h) zao) (λj q=>bdT s q i j) (s.l.m i) (bdI s.l i) q (zeu 114 [0,1,2,3,4] [10] bdK1 []) (zcq 114 _ _ _ _) (λj q=>bdBi s q i j) (λj q=>bd_Bi Pd g sh add s q i j) (λj hj=>?_) ?_ (hS▸za0 114 _ _ _ _ st)
 ·refine⟨λ_=>⟨⟨⟨by omega,by omega⟩,trivial⟩,rfl,?_⟩,λhf=>?_⟩
  ·rw[Wn1 hj hm];exact Dyn.Fits.refl _
  ·rw[decide_eq_false_iff_not]at hf;omega
 ·refine⟨λht=>?_,λ_=>⟨rfl,Dyn.Fits.refl _⟩⟩
  rw[decide_eq_true_eq]at ht;omega
theorem yii{Pd:Sh->Prop}{g:Sh->B4×Bool}(ih:∀x,Pd x->BdOk x g)(sh:Nat->Sh)(add:Nat->Bool)(s:Sh)(hl:CtrB s.l)(w0:Dyn.Base Tryz.prog)(st:Dyn.St)(o:Dyn.Out)
  (h:bdLp g sh add s 1 st=some o):Dyn.zai Tryz.prog w0 1 (.loop (zab (blkD Tryz.f69.body 1))) st o:=by
 simp only[bdLp,Option.some.injEq]at h
 subst h
 refine zcc λhS=>?_
 refine za9 (fuel:=3) (zp2 ih) mo (lp:=bdLp g sh add s) (by rw[bd_b1];exact zaa (λs o h=>by cases h) (zaa (z4a ih sh add s hl w0) (zaa (λs o h=>by cases h) zao))) (λi q=>bdS s q i) s.l.n (bdO s.l) bdQ (zeu 114 [0,1,2,3,4] [] bdK0 []) (zcq 114 _ _ _ _) (λi q=>bdBo s q i) (λi q=>bd_Bo Pd g sh add s q i) (λi hi=>?_) ?_ (hS▸za0 114 _ _ _ _ st)
 ·have hb:0<=(i:Int)/\(i:Int)<s.l.n:=⟨by omega,by omega⟩
  refine⟨λ_=>⟨⟨hb,trivial⟩,⟨rfl,hb,trivial⟩,rfl,?_⟩,λhf=>?_⟩
  ·rw[Wn1 hi hl.1];exact Dyn.Fits.refl _
  ·rw[decide_eq_false_iff_not]at hf;omega
 ·refine⟨λht=>?_,λ_=>⟨rfl,Dyn.Fits.refl _⟩⟩
  rw[decide_eq_true_eq]at ht;omega
theorem yih{Pd:Sh->Prop}{g:Sh->B4×Bool}(ih:∀x,Pd x->BdOk x g)(k:Int)(a b c:P2)(r:Int)(l:Ctr)(n:Nat)(add:Nat->Bool)(sh:Nat->Sh)(hn:n<=1000000000)(hP:∀i,i<n->Pd (sh i))(w0:Dyn.Base Tryz.prog)(st:Dyn.St)(o:Dyn.Out)
  (h:bdLp g sh add (mkSh k a b c r l n add sh) 5 st=some o):Dyn.zai Tryz.prog w0 5 (.loop (zab (blkD Tryz.f69.body 5))) st o:=by
 simp only[bdLp,Option.some.injEq]at h
 subst h
 refine zcc λhS=>?_
 revert hS
 generalize accB st=q0
 intro hS
 refine za9 (fuel:=3) (zp2 ih) mo (lp:=bdLp g sh add (mkSh k a b c r l n add sh)) (by rw[bd_b5];exact zaa (λs o h=>by cases h) zao) (λi q=>bdU (mkSh k a b c r l n add sh) q i) n (bdP g sh add) q0 (zeu 114 [0,1,2,3,4] [] bdK2 []) (zcq 114 _ _ _ _) (λi q=>bdBp Pd g sh add (mkSh k a b c r l n add sh) q i) (λi q=>bd_Bp Pd g k a b c r l n add sh q i) (λi hi=>?_) ?_ (hS▸za0 114 _ _ _ _ st)
 ·have hb:0<=(i:Int)/\(i:Int)<(n:Int):=⟨by omega,by omega⟩
  generalize zax (bdP g sh add) q0 i=q
  unfold bdP
  refine⟨λ_=>⟨⟨hb,trivial⟩,λhx=>⟨rfl,?_⟩,λhx=>⟨⟨hP i hi,zau _,trivial⟩,λhy=>⟨rfl,?_⟩,λhy=>⟨rfl,?_⟩⟩⟩,λhf=>?_⟩
  ·rw[Wn1 hi hn,hx];exact Dyn.Fits.refl _
  ·rw[Wn1 hi hn,hx,hy];exact Dyn.Fits.refl _
  ·rw[Wn1 hi hn,hx,hy];exact Dyn.Fits.refl _
  ·rw[decide_eq_false_iff_not]at hf
   exact absurd hb.2 hf
 ·refine⟨λht=>?_,λ_=>⟨rfl,Dyn.Fits.refl _⟩⟩
  rw[decide_eq_true_eq]at ht
  exact absurd (show(n:Int)<(n:Int)from ht) (by omega)
def bdR(s:Sh):Int:=W (s.r+rupF (W (W (W (s.a.x-s.c.x)*W (s.a.x-s.c.x))+W (W (s.a.y-s.c.y)*W (s.a.y-s.c.y)))))
def yc2(g:Sh->B4×Bool)(sh:Nat->Sh)(add:Nat->Bool)(s:Sh):Bool×B4:=zax (bdP g sh add) (zax (bdO s.l) bdQ s.l.n) s.n
def bdOO(g:Sh->B4×Bool)(sh:Nat->Sh)(add:Nat->Bool)(s:Sh):Dyn.RO:=
 .ite (s.k==1) (.leaf (.tup [dvX (zct s.a s.a s.r),dvB true]))
 (.ite (bif s.k==3 then s.k==3 else s.k==4) (.leaf (.tup [dvX (zct s.a s.b s.r),dvB true]))
 (.ite (s.k==5) (.leaf (.tup [dvX (zct s.c s.c (bdR s)),dvB true]))
 (.side [bdS s bdQ 0=bdS s bdQ 0] (.side [bdU s (zax (bdO s.l) bdQ s.l.n) 0=bdU s (zax (bdO s.l) bdQ s.l.n) 0] (.leaf (.tup [dvX (yc2 g sh add s).2,dvB (yc2 g sh add s).1]))))))
theorem bd_OO(Pd:Sh->Prop)(g:Sh->B4×Bool)(sh:Nat->Sh)(add:Nat->Bool)(s:Sh):(Dyn.dfun Tryz.prog (z84 Pd g) (bdLp g sh add s) 3 Tryz.f69 [dvS s]).ro Tryz.prog Tryz.f69.results=bdOO g sh add s:=by kernel_rfl
def zmy(g:Sh->B4×Bool)(sh:Nat->Sh)(add:Nat->Bool)(s:Sh):B4×Bool:=
 bif s.k==1 then(zct s.a s.a s.r,true)else bif bif s.k==3 then s.k==3 else s.k==4 then(zct s.a s.b s.r,true)else bif s.k==5 then(zct s.c s.c (bdR s),true)else((yc2 g sh add s).2,(yc2 g sh add s).1)
theorem bd_sat(g:Sh->B4×Bool)(sh:Nat->Sh)(add:Nat->Bool)(s:Sh):(bdOO g sh add s).sat λr=>Dyn.RVLe r (.tup [dvX (zmy g sh add s).1,dvB (zmy g sh add s).2]):=by
 unfold zmy
 refine⟨λh=>?_,λh=>⟨λh2=>?_,λh2=>⟨λh3=>?_,λh3=>⟨⟨rfl,trivial⟩,⟨rfl,trivial⟩,?_⟩⟩⟩⟩
 ·rw[h];exact⟨Dyn.DVLe.refl _,rfl,trivial⟩
 ·rw[h,h2];exact⟨Dyn.DVLe.refl _,rfl,trivial⟩
 ·rw[h,h2,h3];exact⟨Dyn.DVLe.refl _,rfl,trivial⟩
 ·rw[h,h2,h3];exact⟨Dyn.DVLe.refl _,Dyn.DVLe.refl _,trivial⟩
theorem z6s{Pd:Sh->Prop}{g:Sh->B4×Bool}(ih:∀x,Pd x->BdOk x g)(k:Int)(a b c:P2)(r:Int)(l:Ctr)(n:Nat)(add:Nat->Bool)(sh:Nat->Sh)(hl:CtrB l)(hn:n<=1000000000)(hP:∀i,i<n->Pd (sh i)) :
  Dyn.zav Tryz.prog 69 [dvS (mkSh k a b c r l n add sh)] (.tup [dvX (zmy g sh add (mkSh k a b c r l n add sh)).1,dvB (zmy g sh add (mkSh k a b c r l n add sh)).2]):=
 Dyn.zbs (lp:=bdLp g sh add (mkSh k a b c r l n add sh)) (fuel:=3) (zp2 ih) mo Tryz.func69 (by kernel_rfl) (c:=zbx Tryz.f69.body) (by kernel_rfl)
  (λw0=>by
   rw[yc0]
   exact zaa (λs o h=>by cases h) (zaa (yii ih sh add _ hl w0) (zaa (λs o h=>by cases h) (zaa (z4a ih sh add _ hl w0) (zaa (λs o h=>by cases h) (zaa (yih ih k a b c r l n add sh hn hP w0) (zaa (λs o h=>by cases h) zao)))))))
  (by kernel_rfl) (bd_OO Pd g sh add _) (bd_sat g sh add (mkSh k a b c r l n add sh))
def bndF:Shp->B4×Bool
 |.nil=>(⟨0,0,0,0⟩,false)
 |.mk k a b c r l n add sub=>
  bif k==1 then(zct a a r,true)else bif bif k==3 then k==3 else k==4 then(zct a b r,true)else bif k==5 then(zct c c (bdR ⟨k,a,b,c,r,l,n,noF⟩),true)else
  ((zax (λi q=>bif !(add i)then q else bif (bndF (sub i)).2 then(true,tkF q.1 q.2 (bndF (sub i)).1)else q) (zax (bdO l) bdQ l.n) n).2,(zax (λi q=>bif !(add i)then q else bif (bndF (sub i)).2 then(true,tkF q.1 q.2 (bndF (sub i)).1)else q) (zax (bdO l) bdQ l.n) n).1)
noncomputable def bndE(x:Sh):B4×Bool:=bndF (ofSh x)
theorem z1d(s:Shp):bndE (toSh s)=bndF s:=by unfold bndE;rw[za7]
theorem yig(k:Int)(a b c:P2)(r:Int)(l:Ctr)(n:Nat)(add:Nat->Bool)(sub:Nat->Shp):bndF (.mk k a b c r l n add sub)=zmy bndE (λi=>toSh (sub i)) add (mkSh k a b c r l n add (λi=>toSh (sub i))):=by
 unfold zmy yc2 bdP
 simp only[z1d]
 rfl
theorem bnd_ok:∀s:Shp,ShB s->BdOk (toSh s) bndE:=by
 intro s
 induction s with
 |nil=>intro h;exact h.elim
 |mk k a b c r l n add sub ih=>
  intro h
  unfold BdOk
  rw[z1d,yig]
  exact z6s (Pd:=λx=>∃i,i<n/\x=toSh (sub i)) (λx hx=>by
   obtain⟨i,hi,rfl⟩:=hx
   exact ih i (h.2.2 i hi)) k a b c r l n add (λi=>toSh (sub i)) h.1 h.2.1 (λi hi=>⟨i,hi,rfl⟩)
theorem yoz:∀x,PdS x->BdOk x bndE:=λx hx=>by
 have k:=bnd_ok _ hx.1
 unfold BdOk at k
 rw[show bndE (toSh (ofSh x))=bndE x by unfold bndE;rw[za7]]at k
 exact zc5 (args:=[dvS (toSh (ofSh x))]) ⟨SLe.dv hx.2,trivial⟩ k
noncomputable def zkr(x:Sh):B4×Bool:=bif okE x then bndE x else(⟨0,0,0,0⟩,false)
noncomputable def tdBb:List Dyn.zb2:=[(17,en1D (qAnd qS PdS) λx=>rB (okE x)),(69,en1D (qAnd qS PdS) λx=>.tup [dvX (bndE x).1,dvB (bndE x).2])]
noncomputable def tabBb:Dyn.Tabs:=Dyn.tabs tbF tdBb noD dtyS
theorem yfv:Dyn.zal Tryz.prog tabBb:=Dyn.zb0 zcy (List.forall_mem_cons.2 ⟨zfe (zbl zgt) λx h=>zvu x h.1,List.forall_mem_cons.2 ⟨zfe (zbl zgt) λx h=>yoz x h.1,λ_ h=>by cases h⟩⟩)
noncomputable def bbO(x:Sh):Dyn.RO:=.side [PdS x,zbz x.l] (.ite (!(okE x)) (.leaf (.tup [dvX ⟨0,0,0,0⟩,dvB false])) (.side [PdS x,zbz x.l] (.leaf (.tup [dvX (bndE x).1,dvB (bndE x).2]))))
theorem bb_O(x:Sh):(Dyn.dfun Tryz.prog tabBb Dyn.noLp 3 Tryz.f54 [dvS x]).ro Tryz.prog Tryz.f54.results=bbO x:=by kernel_rfl
theorem ybx(x:Sh)(h:PdS x):Dyn.zav Tryz.prog 54 [dvS x] (.tup [dvX (zkr x).1,dvB (zkr x).2]):=
 Dyn.zbs (lp:=Dyn.noLp) (fuel:=3) yfv mo Tryz.func54 (by kernel_rfl) (c:=zbx Tryz.f54.body) (by kernel_rfl) (λw0=>Dyn.zcl _ w0) (by kernel_rfl) (bb_O x) (by
  unfold zkr
  refine⟨⟨h,zau _,trivial⟩,λh1=>?_,λh1=>⟨⟨h,zau _,trivial⟩,?_⟩⟩
  ·rw[show okE x=false by simpa using h1];exact⟨Dyn.DVLe.refl _,rfl,trivial⟩
  ·rw[show okE x=true by simpa using h1];exact⟨Dyn.DVLe.refl _,Dyn.DVLe.refl _,trivial⟩)
def okS(s:Shp):Bool:=(zfs s 0 1000).1
theorem yag(s:Shp):okE (toSh s)=okS s:=by unfold okE okS;rw[ydx]
def zbf(s:Shp)(b:B4):Int:=bif !(okS s)then 0 else zf7 s b
theorem z0v(s:Shp)(b:B4):zkq s b=zbf s b:=by unfold zkq zbf;rw[yag]
def zb6(s:Shp)(b:B4):Int:=zax (λi acc=>zek acc (zbf (suO s i) b) (adO s i)) 0 (nuO s)
theorem z2z(s:Shp)(b:B4):zrg s b=zb6 s b:=by
 unfold zrg zb6
 simp only[z0v]
def zdf(s:Shp):B4×Bool:=bif okS s then bndF s else(⟨0,0,0,0⟩,false)
theorem z3y(s:Shp):zkr (toSh s)=zdf s:=by unfold zkr zdf;rw[yag,z1d]
def kN(keep:Nat->Bool):Nat->Nat
 |0=>0
 |n+1=>bif keep n then kN keep n+1 else kN keep n
def kIx(keep:Nat->Bool):Nat->Nat->Nat
 |0,_=>0
 |n+1,j=>bif keep n&&Nat.beq (kN keep n) j then n else kIx keep n j
theorem yhi(keep:Nat->Bool):∀n,kN keep n<=n
 |0=>Nat.le_refl _
 |n+1=>by
  have:=yhi keep n
  unfold kN
  cases keep n
  ·show kN keep n<=n+1;omega
  ·show kN keep n+1<=n+1;omega
theorem ybb(keep:Nat->Bool){i:Nat}:∀{n:Nat},i<=n->kN keep i<=kN keep n
 |0,h=>by
        obtain rfl:i=0:=by omega
        exact Nat.le_refl _
 |n+1,h=>by
  by_cases e:i=n+1
  ·subst e;exact Nat.le_refl _
  ·have:=ybb keep (i:=i) (n:=n) (by omega)
   show kN keep i<=(bif keep n then kN keep n+1 else kN keep n)
   cases keep n
   ·exact this
   ·show kN keep i<=kN keep n+1;omega
theorem zry(keep:Nat->Bool){i:Nat}(h:keep i=true):kN keep (i+1)=kN keep i+1:=by
 show(bif keep i then kN keep i+1 else kN keep i)=_
 rw[h];rfl
theorem zvj(keep:Nat->Bool){i:Nat}(h:keep i=false):kN keep (i+1)=kN keep i:=by
 show(bif keep i then kN keep i+1 else kN keep i)=_
 rw[h];rfl
theorem z3l(keep:Nat->Bool){i:Nat}(h:keep i=true):∀{n:Nat},i<n->kIx keep n (kN keep i)=i
 |0,hn=>absurd hn (Nat.not_lt_zero i)
 |n+1,hn=>by
  show(bif keep n&&Nat.beq (kN keep n) (kN keep i)then n else kIx keep n (kN keep i))=i
  by_cases e:i=n
  ·subst e
   rw[h,Nat.beq_refl];rfl
  ·have k1:=ybb keep (i:=i+1) (n:=n) (by omega)
   rw[zry keep h]at k1
   have:Nat.beq (kN keep n) (kN keep i)=false:=by
    cases q:Nat.beq (kN keep n) (kN keep i)
    ·rfl
    ·have:=Nat.eq_of_beq_eq_true q;omega
   rw[this,Bool.and_false]
   exact z3l keep h (by omega)
theorem zt3(keep:Nat->Bool){j:Nat}:∀{n:Nat},j<kN keep n->kIx keep n j<n/\keep (kIx keep n j)=true
 |0,h=>absurd h (Nat.not_lt_zero j)
 |n+1,h=>by
  show(bif keep n&&Nat.beq (kN keep n) j then n else kIx keep n j)<n+1/\keep (bif keep n&&Nat.beq (kN keep n) j then n else kIx keep n j)=true
  cases hk:keep n
  ·rw[zvj keep hk]at h
   have:=zt3 keep (j:=j) (n:=n) h
   exact⟨by show kIx keep n j<n+1;omega,this.2⟩
  ·rw[zry keep hk]at h
   cases q:Nat.beq (kN keep n) j
   ·have ne:kN keep n≠j:=λe=>by rw[e,Nat.beq_refl]at q;cases q
    have:=zt3 keep (j:=j) (n:=n) (by omega)
    exact⟨by show kIx keep n j<n+1;omega,this.2⟩
   ·exact⟨by show n<n+1;omega,hk⟩
def filL(keep:Nat->Bool)(s:Shp):Shp:=zeq (kN keep (nuO s)) (λj=>adO s (kIx keep (nuO s) j)) (λj=>suO s (kIx keep (nuO s) j))
theorem z3x{α:Type}(keep:Nat->Bool)(g:Nat->α->α)(a:α)(n:Nat):∀m,m<=n->zax (λj acc=>g (kIx keep n j) acc) a (kN keep m)=zax (λi acc=>bif keep i then g i acc else acc) a m
 |0,_=>rfl
 |m+1,h=>by
  have ih:=z3x keep g a n m (by omega)
  cases hk:keep m
  ·rw[zvj keep hk,ih]
   show _=(bif keep m then _ else _)
   rw[hk];rfl
  ·rw[zry keep hk]
   show g (kIx keep n (kN keep m)) (zax _ a (kN keep m))=(bif keep m then _ else _)
   rw[z3l keep hk (show m<n by omega),ih,hk];rfl
theorem ztq(keep:Nat->Bool)(s:Shp)(b:B4):zb6 (filL keep s) b=zax (λi acc=>bif keep i then zek acc (zbf (suO s i) b) (adO s i)else acc) 0 (nuO s):=
 z3x keep (λi acc=>zek acc (zbf (suO s i) b) (adO s i)) 0 (nuO s) (nuO s) (Nat.le_refl _)
def hbF:Shp->Bool
 |.nil=>false
 |.mk k _ _ _ _ _ n _ sub=>bif k==4 then true else !((runN (λi (_:Unit)=>(!(hbF (sub i)),())) () n).1)
def rchK(s:Shp)(i:Nat):Bool:=(zdf (suO s i)).2
def znh(s:Shp):Shp:=filL (rchK s) s
def nearK(s:Shp)(b:B4)(i:Nat):Bool:=bif hbF (suO s i)then true else !(zo3 (zdf (suO s i)).1 b)
def zj3(s:Shp)(b:B4):Shp:=filL (nearK s b) s
structure ExR where
 lo:Int
 hi:Int
 e:Int
 a:Int
def exNo(e a:Int):ExR:=⟨0,0,e,a⟩
def spB(b:B4)(i:Nat):B4:=match i with
 |0=>⟨spl b 0 b.x0,spl b 0 b.y0,spl b 0 (midX b),spl b 0 (midY b)⟩
 |1=>⟨spl b 0 (midX b),spl b 0 b.y0,spl b 0 b.x1,spl b 0 (midY b)⟩
 |2=>⟨spl b 0 b.x0,spl b 0 (midY b),spl b 0 (midX b),spl b 0 b.y1⟩
 |_=>⟨spl b 0 (midX b),spl b 0 (midY b),spl b 0 b.x1,spl b 0 b.y1⟩
def exQ(f:B4->Int->ExR)(b:B4)(a:Int):ExR:=
 bif (f (spB b 0) a).e != 0 then exNo (f (spB b 0) a).e (f (spB b 0) a).a else
 bif (f (spB b 1) (f (spB b 0) a).a).e != 0 then exNo (f (spB b 1) (f (spB b 0) a).a).e (f (spB b 1) (f (spB b 0) a).a).a else
 bif (f (spB b 2) (f (spB b 1) (f (spB b 0) a).a).a).e != 0 then exNo (f (spB b 2) (f (spB b 1) (f (spB b 0) a).a).a).e (f (spB b 2) (f (spB b 1) (f (spB b 0) a).a).a).a else
 bif (f (spB b 3) (f (spB b 2) (f (spB b 1) (f (spB b 0) a).a).a).a).e != 0 then exNo (f (spB b 3) (f (spB b 2) (f (spB b 1) (f (spB b 0) a).a).a).a).e (f (spB b 3) (f (spB b 2) (f (spB b 1) (f (spB b 0) a).a).a).a).a else
 ⟨W (W (W (W (0+(f (spB b 0) a).lo)+(f (spB b 1) (f (spB b 0) a).a).lo)+(f (spB b 2) (f (spB b 1) (f (spB b 0) a).a).a).lo)+(f (spB b 3) (f (spB b 2) (f (spB b 1) (f (spB b 0) a).a).a).a).lo),
  W (W (W (W (0+(f (spB b 0) a).hi)+(f (spB b 1) (f (spB b 0) a).a).hi)+(f (spB b 2) (f (spB b 1) (f (spB b 0) a).a).a).hi)+(f (spB b 3) (f (spB b 2) (f (spB b 1) (f (spB b 0) a).a).a).a).hi),
  0,(f (spB b 3) (f (spB b 2) (f (spB b 1) (f (spB b 0) a).a).a).a).a⟩
def zci(d:Nat):Int:=((4 ^ d:Nat):Int)
def exT(most c:Int)(cells:Int)(m:Int->ExR)(a:Int):ExR:=
 bif !(decide (W (a+1)<=most))then exNo 6 (W (a+1))else
 bif c==0 then exNo 0 (W (a+1))else bif c==2 then⟨cells,cells,0,W (a+1)⟩else m (W (a+1))
def exF(most:Int):Nat->Shp->B4->Int->ExR
 |0,s,b,a=>exT most (zb6 s b) (zci 0) (λa=>⟨0,1,0,a⟩) a
 |d+1,s,b,a=>exT most (zb6 s b) (zci (d+1)) (exQ (λq a=>exF most d (zj3 s q) q a) b) a
def FinC(P:P2->Prop)(l:Ctr):Prop:=l.n<=4/\∀i,i<l.n->l.m i<=12/\∀k,k<l.m i->P (l.p i k)
def Fine(P:P2->Prop):Shp->Int->Prop
 |.nil,_=>False
 |.mk k a b c r l n _ sub,d=>
  (k=1/\b=ze/\c=ze/\l=zeC/\n=0/\P a/\widF r=true)\/
  (k=3/\c=ze/\l=zeC/\n=0/\P a/\P b/\widF r=true)\/
  (k=4/\c=ze/\l=zeC/\n=0/\P a/\P b/\widF r=true/\a≠b)\/
  (k=5/\l=zeC/\n=0/\P a/\P b/\P c/\widF r=true/\okI c a b)\/
  (k=2/\a=ze/\b=ze/\c=ze/\r=0/\n=0/\FinC P l)\/
  (k=6/\a=ze/\b=ze/\c=ze/\r=0/\l=zeC/\d<=5/\((n:Int)<=4-d\/n<=1)/\∀i,i<n->Fine P (sub i) (d+1))
def Nd(d:Int):Int:=if d>=6 then 1 else if d=5 then 2 else if d=4 then 3 else if d=3 then 4 else if d=2 then 9 else if d=1 then 28 else 113
theorem zuk(d:Int):1<=Nd d/\Nd d<=113:=by unfold Nd;repeat' split<;>first|omega|(constructor<;>omega)
theorem ydi{d m:Int}(h0:0<=d)(h5:d<=5)(h1:0<=m)(h2:m<=4-d\/m<=1):1+m*Nd (d+1)<=Nd d:=by
 have:d=0\/d=1\/d=2\/d=3\/d=4\/d=5:=by omega
 rcases this with rfl|rfl|rfl|rfl|rfl|rfl
 ·rw[show Nd (0+1)=28 by decide,show Nd 0=113 by decide];omega
 ·rw[show Nd (1+1)=9 by decide,show Nd 1=28 by decide];omega
 ·rw[show Nd (2+1)=4 by decide,show Nd 2=9 by decide];omega
 ·rw[show Nd (3+1)=3 by decide,show Nd 3=4 by decide];omega
 ·rw[show Nd (4+1)=2 by decide,show Nd 4=3 by decide];omega
 ·rw[show Nd (5+1)=1 by decide,show Nd 5=2 by decide];omega
theorem zp4{α:Type}{g:Nat->α->Bool×α}(I:Nat->α->Prop){a:α}(h0:I 0 a):∀n,(∀i x,i<n->I i x->(g i x).1=true/\I (i+1) (g i x).2)->(runN g a n).1=true/\I n (runN g a n).2
 |0,_=>⟨rfl,h0⟩
 |n+1,h=>by
  have k:=zp4 I h0 n (λi x hi=>h i x (by omega))
  have e:runN g a n=(true,(runN g a n).2):=Prod.ext k.1 rfl
  rw[zq3 e]
  exact h n _ (by omega) k.2
theorem yhz{P:P2->Prop}(hP:∀p,P p->zd0 p=true){l:Ctr}(h:FinC P l):zfg l=true:=by
 unfold zfg
 refine(zp4 (λi (left:Int)=>1000-12*(i:Int)<=left/\left<=1000) ⟨by omega,by omega⟩ l.n (λi x hi hx=>?_)).1
 have hm:=h.2 i hi
 have hn:=h.1
 unfold ctgO
 rw[decide_eq_false (show ¬(l.m i:Int)>x by omega)]
 refine⟨?_,?_⟩
 ·show(runN (ctgI l i) () (l.m i)).1=true
  exact(zp4 (λ_ _=>True) trivial (l.m i) (λk _ hk _=>⟨hP _ (hm.2 k hk),trivial⟩)).1
 ·show 1000-12*((i+1:Nat):Int)<=W (x-l.m i)/\W (x-l.m i)<=1000
  rw[W_id (by omega) (by omega)];omega
theorem zrl{p:P2}(h:zd0 p=true):PR p:=by
 unfold zd0 at h
 rw[zew,zew,zew,Bool.and_eq_true,Bool.and_eq_true,Bool.and_eq_true,decide_eq_true_eq,decide_eq_true_eq,decide_eq_true_eq,decide_eq_true_eq]at h
 exact⟨⟨by omega,by omega⟩,⟨by omega,by omega⟩⟩
theorem z0x{a b:P2}:(bif a.x==b.x then bif a.y==b.y then true else false else false)=true↔a=b:=by
 obtain⟨x,y⟩:=a
 obtain⟨x',y'⟩:=b
 by_cases h:x=x'
 ·by_cases k:y=y'
  ·subst h;subst k;simp
  ·simp[h,k]
 ·simp[h]
theorem bare_1(a:P2)(r:Int)(add:Nat->Bool)(sub:Nat->Shp):zsl (toSh (.mk 1 a ze ze r zeC 0 add sub))=true:=by kernel_rfl
theorem bare_3(a b:P2)(r:Int)(add:Nat->Bool)(sub:Nat->Shp):zsl (toSh (.mk 3 a b ze r zeC 0 add sub))=true:=by kernel_rfl
theorem bare_4(a b:P2)(r:Int)(add:Nat->Bool)(sub:Nat->Shp):zsl (toSh (.mk 4 a b ze r zeC 0 add sub))=true:=by kernel_rfl
theorem bare_5(a b c:P2)(r:Int)(add:Nat->Bool)(sub:Nat->Shp):zsl (toSh (.mk 5 a b c r zeC 0 add sub))=true:=by kernel_rfl
theorem bare_2(l:Ctr)(add:Nat->Bool)(sub:Nat->Shp):zsl (toSh (.mk 2 ze ze ze 0 l 0 add sub))=true:=by kernel_rfl
theorem bare_6(n:Nat)(add:Nat->Bool)(sub:Nat->Shp):zsl (toSh (.mk 6 ze ze ze 0 zeC n add sub))=true:=by kernel_rfl
theorem zt9{P:P2->Prop}(hP:∀p,P p->zd0 p=true):∀(s:Shp) (d forms left:Int),Fine P s d->0<=d->0<=forms->forms<=d->Nd d<=left->left<=1000->
  (zfs s forms left).1=true/\left-Nd d<=(zfs s forms left).2/\(zfs s forms left).2<=left:=by
 intro s
 induction s with
 |nil=>intro d forms left h;exact h.elim
 |mk k a b c r l n add sub ih=>
  intro d forms left h h0 hf hfd hl h1
  have nd:=zuk d
  have nn:=zuk (d+1)
  have e1:decide (left<1)=false:=decide_eq_false (by omega)
  have e2:W (left-1)=left-1:=W_id (by omega) (by omega)
  have fin:∀v:Bool×Int,v=(true,left-1)->v.1=true/\left-Nd d<=v.2/\v.2<=left:=λv hv=>by subst hv;exact⟨rfl,by dsimp only;omega,by dsimp only;omega⟩
  rcases h with⟨rfl,rfl,rfl,rfl,rfl,ha,hr⟩|⟨rfl,rfl,rfl,rfl,ha,hb,hr⟩|⟨rfl,rfl,rfl,rfl,ha,hb,hr,hn⟩|⟨rfl,rfl,rfl,ha,hb,hc,hr,ho⟩|⟨rfl,rfl,rfl,rfl,rfl,rfl,hc⟩|⟨rfl,rfl,rfl,rfl,rfl,rfl,h5,hm,hs⟩
  ·refine fin _ ?_
   simp only[zfs]
   rw[e1,bare_1,e2,hP a ha,hr];rfl
  ·refine fin _ ?_
   simp only[zfs]
   rw[e1,bare_3,e2,hP a ha,hP b hb,hr];rfl
  ·refine fin _ ?_
   simp only[zfs]
   rw[e1,bare_4,e2,hP a ha,hP b hb,hr,show(bif a.x==b.x then bif a.y==b.y then true else false else false)=false by rw[Bool.eq_false_iff];exact λq=>hn (z0x.1 q)];rfl
  ·refine fin _ ?_
   simp only[zfs]
   rw[e1,bare_5,e2,hP a ha,hP b hb,hP c hc,hr,(zq6 (zrl (hP c hc)) (zrl (hP a ha)) (zrl (hP b hb))).2 ho];rfl
  ·refine fin _ ?_
   simp only[zfs]
   rw[e1,bare_2,e2,yhz hP hc];rfl
  ·have st:=ydi h0 h5 (show 0<=(n:Int)by omega) (by omega)
   have key:=zp4 (g:=λi lf=>zfs (sub i) (W (forms+1)) lf) (a:=left-1) (λi (lf:Int)=>left-1-(i:Int)*Nd (d+1)<=lf/\lf<=left-1) ⟨by omega,by omega⟩ n (λi x hi hx=>by
    have a1:((i+1:Nat):Int)*Nd (d+1)<=(n:Int)*Nd (d+1):=Int.mul_le_mul_of_nonneg_right (by omega) (by omega)
    have a2:((i+1:Nat):Int)*Nd (d+1)=(i:Int)*Nd (d+1)+Nd (d+1):=by rw[show((i+1:Nat):Int)=(i:Int)+1 by omega,Int.add_mul,Int.one_mul]
    have w:W (forms+1)=forms+1:=W_id (by omega) (by omega)
    have q:=ih i (d+1) (forms+1) x (hs i hi) (by omega) (by omega) (by omega) (by omega) (by omega)
    rw[w]
    refine⟨q.1,?_,?_⟩
    ·omega
    ·omega)
   have ev:zfs (.mk 6 ze ze ze 0 zeC n add sub) forms left=runN (λi lf=>zfs (sub i) (W (forms+1)) lf) (left-1) n:=by
    simp only[zfs]
    rw[e1,bare_6,e2,decide_eq_false (show ¬forms>=8 by omega)];rfl
   rw[ev]
   exact⟨key.1,by omega,by omega⟩
def PB(B:Int)(p:P2):Prop:=(-B<=p.x/\p.x<=B)/\(-B<=p.y/\p.y<=B)
theorem zso{B:Int}(h:B<=536870912){p:P2}(k:PB B p):zd0 p=true:=by
 unfold zd0
 rw[decide_eq_true (show p.x>=-536870912 by have:=k.1;omega),decide_eq_true (show p.x<=536870912 by have:=k.1;omega),decide_eq_true (show p.y>=-536870912 by have:=k.2;omega),decide_eq_true (show p.y<=536870912 by have:=k.2;omega)]
 rfl
def tmX(sm:Bool):Int:=bif sm then 40 else 536870912
theorem yc4(p:P2)(sm:Bool):PB (tmX sm) (atP p sm):=by
 cases sm
 ·exact lPt_r p
 ·have h:=zjd p (n:=20) (by decide) (by decide)
  exact⟨⟨by show(-40:Int)<=(zdc p 20).x;omega,by show(zdc p 20).x<=(40:Int);omega⟩,⟨by show(-40:Int)<=(zdc p 20).y;omega,by show(zdc p 20).y<=(40:Int);omega⟩⟩
theorem at_PB0(p:P2)(sm:Bool):(-536870912<=(atP p sm).x/\(atP p sm).x<=536870912):=by
 have h:=yc4 p sm
 cases sm
 ·exact h.1
 ·have:=h.1;unfold tmX at this;simp only[cond_true]at this;omega
theorem tmB_ok(s:Sh)(sm:Bool):PB (tmX sm) (tmB s sm)/\atP s.a sm≠tmB s sm:=by
 have hb:=yc4 s.b sm
 have h0:=at_PB0 s.b sm
 have hx:40<=tmX sm:=by cases sm<;>decide
 unfold tmB
 cases e:eqP (atP s.a sm) (atP s.b sm)
 ·refine⟨hb,λq=>?_⟩
  rw[Bool.eq_false_iff]at e
  exact e (z0x.2 q)
 ·have ea:atP s.a sm=atP s.b sm:=z0x.1 e
  cases g:decide ((atP s.b sm).x>0)
  ·rw[decide_eq_false_iff_not]at g
   have w:W ((atP s.b sm).x+1)=(atP s.b sm).x+1:=W_id (by omega) (by omega)
   refine⟨⟨⟨by show _<=W ((atP s.b sm).x+1);rw[w];have:=hb.1;omega,by show W ((atP s.b sm).x+1)<=_;rw[w];omega⟩,hb.2⟩,λq=>?_⟩
   have:(atP s.a sm).x=W ((atP s.b sm).x+1):=congrArg P2.x q
   rw[ea,w]at this;omega
  ·rw[decide_eq_true_eq]at g
   have w:W ((atP s.b sm).x-1)=(atP s.b sm).x-1:=W_id (by omega) (by omega)
   refine⟨⟨⟨by show _<=W ((atP s.b sm).x-1);rw[w];omega,by show W ((atP s.b sm).x-1)<=_;rw[w];have:=hb.1;omega⟩,hb.2⟩,λq=>?_⟩
   have:(atP s.a sm).x=W ((atP s.b sm).x-1):=congrArg P2.x q
   rw[ea,w]at this;omega
theorem tmR_ok(s:Sh)(sm:Bool):widF (tmR s sm)=true:=by
 have h:=lR_bd s.r
 unfold widF
 cases sm
 ·show andB (decide (lR s.r>=1)) (decide (lR s.r<=536870912))=true
  rw[decide_eq_true (show lR s.r>=1 by omega),decide_eq_true h.2];rfl
 ·have h1:=Int.tmod_nonneg (a:=lR s.r) 15 (by omega)
  have h2:=(zhv (lR s.r) (n:=15) (by decide)).2
  show andB (decide (W ((lR s.r).tmod 15+1)>=1)) (decide (W ((lR s.r).tmod 15+1)<=536870912))=true
  rw[W_id (by omega) (by omega),decide_eq_true (show(lR s.r).tmod 15+1>=1 by omega),decide_eq_true (show(lR s.r).tmod 15+1<=536870912 by omega)];rfl
theorem yo7(c:P2)(sm:Bool):PB (tmX sm) (arcC c sm):=by
 cases sm
 ·have h:=zy6 c false
  exact⟨⟨by show(-536870912:Int)<=_;omega,by show _<=(536870912:Int);omega⟩,⟨by show(-536870912:Int)<=_;omega,by show _<=(536870912:Int);omega⟩⟩
 ·have h:=ykx c
  exact⟨⟨by show(-40:Int)<=_;omega,by show _<=(40:Int);omega⟩,⟨by show(-40:Int)<=_;omega,by show _<=(40:Int);omega⟩⟩
theorem z4d(c:P2)(f s:Int)(sm:Bool):PB (tmX sm) (zm0 c f s sm):=by
 rw[zwd]
 have h:=zv4 f
 cases sm
 ·have hc:=zy6 c false
  have kk:=z1k s false
  have x:=zid (A:=20000000) (B:=5) (x:=arcK s false) (y:=(circ f).x) (by omega) (by omega) h.x.1 h.x.2
  have y:=zid (A:=20000000) (B:=5) (x:=arcK s false) (y:=(circ f).y) (by omega) (by omega) h.y.1 h.y.2
  exact⟨⟨by show(-536870912:Int)<=(arcC c false).x+_;omega,by show(arcC c false).x+_<=(536870912:Int);omega⟩,⟨by show(-536870912:Int)<=(arcC c false).y+_;omega,by show(arcC c false).y+_<=(536870912:Int);omega⟩⟩
 ·have hc:=ykx c
  have kk:=z4c s
  have x:=zid (A:=4) (B:=5) (x:=zo2 s) (y:=(circ f).x) (by omega) (by omega) h.x.1 h.x.2
  have y:=zid (A:=4) (B:=5) (x:=zo2 s) (y:=(circ f).y) (by omega) (by omega) h.y.1 h.y.2
  exact⟨⟨by show(-40:Int)<=(arcC c true).x+zo2 s*(circ f).x;omega,by show(arcC c true).x+zo2 s*(circ f).x<=(40:Int);omega⟩,⟨by show(-40:Int)<=(arcC c true).y+zo2 s*(circ f).y;omega,by show(arcC c true).y+zo2 s*(circ f).y<=(40:Int);omega⟩⟩
theorem yo6(c:P2)(f t s:Int)(sm:Bool):okI (arcC c sm) (zm0 c f s sm) (zm0 c t s sm):=by
 have kk:=z1k s sm
 have a:=(onC_r (zy6 c sm) kk (zv4 f)).2
 have b:=(onC_r (zy6 c sm) kk (zv4 t)).2
 rw[zwd,zwd]
 have p:1<=arcK s sm*arcK s sm:=Int.le_trans (show(1:Int)<=1*1 by decide) (Int.mul_le_mul kk.1 kk.1 (by decide) (by omega))
 exact⟨by rw[a];omega,by rw[a,b]⟩
theorem z8k(l:Ctr)(sm:Bool):FinC (PB (tmX sm)) (z4r l sm):=by
 refine⟨by show min l.n 4<=4;omega,λi _=>⟨by show min (l.m i) 12<=12;omega,λk _=>?_⟩⟩
 cases sm
 ·exact lPt_r (l.p i k)
 ·have h:=zjd (lPt (l.p i k)) (n:=20) (by decide) (by decide)
  exact⟨⟨by show(-40:Int)<=(zdc (lPt (l.p i k)) 20).x;omega,by show(zdc (lPt (l.p i k)) 20).x<=(40:Int);omega⟩,⟨by show(-40:Int)<=(zdc (lPt (l.p i k)) 20).y;omega,by show(zdc (lPt (l.p i k)) 20).y<=(40:Int);omega⟩⟩
theorem ylh(s:Sh):1<=tmK0 s/\tmK0 s<=6:=by
 have a:=zhv s.k (n:=6) (by decide)
 have w:W (s.k.tmod 6+6)=s.k.tmod 6+6:=W_id (by omega) (by omega)
 have b:=Int.tmod_nonneg (a:=s.k.tmod 6+6) 6 (by omega)
 have c:=(zhv (s.k.tmod 6+6) (n:=6) (by decide)).2
 unfold tmK0
 rw[w,W_id (by omega) (by omega)];omega
theorem ylg(s:Sh)(d:Int):(1<=tmKk s d/\tmKk s d<=6)/\(tmKk s d=6->d<=5):=by
 have a:=ylh s
 unfold tmKk
 by_cases h:d>5
 ·rw[decide_eq_true h]
  cases g:tmK0 s==6
  ·refine⟨a,λe=>?_⟩
   have e:tmK0 s=6:=e
   rw[e]at g;cases g
  ·exact⟨by show(1:Int)<=1/\(1:Int)<=6;omega,λe=>by cases e⟩
 ·rw[decide_eq_false h]
  exact⟨a,λ_=>by omega⟩
theorem zwr(sm:Bool):∀(s:Shp) (d:Int),ShB s->0<=d->d<=6->Fine (PB (tmX sm)) (zl4 s sm d) d:=by
 intro s
 induction s with
 |nil=>intro d h;exact h.elim
 |mk k a b c r l n add sub ih=>
  intro d h h0 h6
  have kk:=ylg ⟨k,a,b,c,r,l,n,noF⟩ d
  have kb:=tmB_ok ⟨k,a,b,c,r,l,n,noF⟩ sm
  have kr:=tmR_ok ⟨k,a,b,c,r,l,n,noF⟩ sm
  simp only[zl4]
  generalize tmKk ⟨k,a,b,c,r,l,n,noF⟩ d=K at *
  have:K=1\/K=2\/K=3\/K=4\/K=5\/K=6:=by omega
  rcases this with rfl|rfl|rfl|rfl|rfl|rfl
  ·exact .inl ⟨rfl,rfl,rfl,rfl,rfl,yc4 a sm,kr⟩
  ·exact .inr (.inr (.inr (.inr (.inl ⟨rfl,rfl,rfl,rfl,rfl,rfl,z8k l sm⟩))))
  ·exact .inr (.inl ⟨rfl,rfl,rfl,rfl,yc4 a sm,kb.1,kr⟩)
  ·exact .inr (.inr (.inl ⟨rfl,rfl,rfl,rfl,yc4 a sm,kb.1,kr,kb.2⟩))
  ·exact .inr (.inr (.inr (.inl ⟨rfl,rfl,rfl,z4d _ _ _ _,z4d _ _ _ _,yo7 _ _,kr,yo6 _ _ _ _ _⟩)))
  ·have h5:=kk.2 rfl
   have w:W (4-d)=4-d:=W_id (by omega) (by omega)
   have wd:W (d+1)=d+1:=W_id (by omega) (by omega)
   have hn:tmN ⟨k,a,b,c,r,l,n,noF⟩ d=min n (imax (4-d) 1).toNat:=by unfold tmN;rw[w]
   refine .inr (.inr (.inr (.inr (.inr ⟨rfl,rfl,rfl,rfl,rfl,rfl,h5,?_,λi hi=>?_⟩))))
   ·rw[hn];unfold imax;split<;>omega
   ·rw[wd]
    exact ih i (d+1) (h.2.2 i (by rw[hn]at hi;omega)) (by omega) (by omega)
def rt(m:Bool)(k:Int)(p:P2):P2:=
 ⟨bif k==1 then -p.y else bif k==2 then -(bif m then -p.x else p.x)else bif k==3 then p.y else(bif m then -p.x else p.x),
  bif k==1 then(bif m then -p.x else p.x)else bif k==2 then -p.y else bif k==3 then -(bif m then -p.x else p.x)else p.y⟩
def Q4(k:Int):Prop:=k=0\/k=1\/k=2\/k=3
theorem yj4(q:Int):Q4 (quF q):=by have:=band3 q;unfold Q4 quF;omega
theorem zfw{z:Int}(h0 : -4<=z)(h1:z<=6):quF z=z%4:=by
 have:z = -4\/z = -3\/z = -2\/z = -1\/z=0\/z=1\/z=2\/z=3\/z=4\/z=5\/z=6:=by omega
 rcases this with rfl|rfl|rfl|rfl|rfl|rfl|rfl|rfl|rfl|rfl|rfl<;>decide +kernel
theorem znj(t:Tn):Q4 (plQ t):=yj4 _
theorem rt_PB{B:Int}(m:Bool)(k:Int){p:P2}(h:PB B p):PB B (rt m k p):=by
 obtain⟨⟨h1,h2⟩,h3,h4⟩:=h
 unfold rt PB
 dsimp only
 cases m<;>cases k==1<;>cases k==2<;>cases k==3<;>simp only[cond_true,cond_false]<;>omega
theorem P2.ext'{p q:P2}(h:p.x=q.x)(k:p.y=q.y):p=q:=by cases p;cases q;cases h;cases k;rfl
theorem zfa{p:P2}{t:Tn}(h:PB 1000000000000 p)(hu:PB 1000000000000 t.u):zan p t=⟨(rt (plX t) (plQ t) p).x+t.u.x,(rt (plX t) (plQ t) p).y+t.u.y⟩:=by
 obtain⟨mx,my,q,u⟩:=t
 obtain⟨⟨h1,h2⟩,h3,h4⟩:=h
 obtain⟨⟨u1,u2⟩,u3,u4⟩:=hu
 dsimp only at u1 u2 u3 u4
 have hq:=yj4 q
 unfold zan plX plQ
 dsimp only
 generalize quF q=κ at *
 have w:∀z,-1000000000000<=z->z<=1000000000000->W (0-z) = -z:=λz a b=>by rw[W_id (by omega) (by omega)];omega
 have w2:∀z v,-1000000000000<=z->z<=1000000000000->-1000000000000<=v->v<=1000000000000->W (z+v)=z+v:=λz v a b c d=>W_id (by omega) (by omega)
 have w3:∀z,0<=z->z<=3->W (z+2)=z+2:=λz a b=>W_id (by omega) (by omega)
 rcases hq with rfl|rfl|rfl|rfl<;>cases mx<;>cases my<;>
  simp only[cond_true,cond_false,w3 0 (by omega) (by omega),w3 1 (by omega) (by omega),w3 2 (by omega) (by omega),w3 3 (by omega) (by omega),zfw (z:=0) (by omega) (by omega),zfw (z:=1) (by omega) (by omega),zfw (z:=2) (by omega) (by omega),zfw (z:=3) (by omega) (by omega),zfw (z:=0+2) (by omega) (by omega),zfw (z:=1+2) (by omega) (by omega),zfw (z:=2+2) (by omega) (by omega),zfw (z:=3+2) (by omega) (by omega)]<;>
  refine P2.ext' ?_ ?_<;>unfold rt<;>dsimp only<;>simp only[show((0:Int)==1)=false from rfl,show((0:Int)==2)=false from rfl,show((0:Int)==3)=false from rfl,show((1:Int)==1)=true from rfl,show((2:Int)==1)=false from rfl,show((2:Int)==2)=true from rfl,show((3:Int)==1)=false from rfl,show((3:Int)==2)=false from rfl,show((3:Int)==3)=true from rfl,cond_true,cond_false,show(0:Int)%4=0 from rfl,show(1:Int)%4=1 from rfl,show(2:Int)%4=2 from rfl,show(3:Int)%4=3 from rfl,show((0+2:Int))%4=2 from rfl,show((1+2:Int))%4=3 from rfl,show((2+2:Int))%4=0 from rfl,show((3+2:Int))%4=1 from rfl,show(true==true)=true from rfl,show(true==false)=false from rfl,show(false==true)=false from rfl,show(false==false)=true from rfl,Bool.not_true,Bool.not_false]<;>
  repeat (first|rw[w p.x (by omega) (by omega)]|rw[w p.y (by omega) (by omega)]|rw[w (-p.x) (by omega) (by omega)]|rw[w (-p.y) (by omega) (by omega)]|rw[w2 _ _ (by omega) (by omega) (by omega) (by omega)]|omega)
theorem zd8{X Y:Int}{q:P2}(h:PB X q)(k:X<=Y):PB Y q:=⟨⟨by have:=h.1;omega,by have:=h.1;omega⟩,⟨by have:=h.2;omega,by have:=h.2;omega⟩⟩
theorem PB_add{B C:Int}{m:Bool}{k:Int}{p u:P2}(h:PB B p)(g:PB C u):PB (B+C) ⟨(rt m k p).x+u.x,(rt m k p).y+u.y⟩:=by
 obtain⟨⟨a1,a2⟩,a3,a4⟩:=rt_PB m k h
 obtain⟨⟨c1,c2⟩,c3,c4⟩:=g
 exact⟨⟨by dsimp only;omega,by dsimp only;omega⟩,⟨by dsimp only;omega,by dsimp only;omega⟩⟩
theorem zfi{B C:Int}{p:P2}{t:Tn}(h:PB B p)(g:PB C t.u)(b:B<=1000000000000)(c:C<=1000000000000):PB (B+C) (zan p t):=by
 rw[zfa (zd8 h b) (zd8 g c)]
 exact PB_add h g
theorem rt_inj{m:Bool}{k:Int}(hk:Q4 k){p q:P2}(h:rt m k p=rt m k q):p=q:=by
 have hx:=congrArg P2.x h
 have hy:=congrArg P2.y h
 unfold rt at hx hy
 dsimp only at hx hy
 rcases hk with rfl|rfl|rfl|rfl<;>cases m<;>simp at hx hy<;>exact P2.ext' (by omega) (by omega)
theorem yd0{B C:Int}{p q:P2}{t:Tn}(h:PB B p)(h2:PB B q)(g:PB C t.u)(b:B<=1000000000000)(c:C<=1000000000000)(e:zan p t=zan q t):p=q:=by
 rw[zfa (zd8 h b) (zd8 g c),zfa (zd8 h2 b) (zd8 g c)]at e
 have hx:=congrArg P2.x e
 have hy:=congrArg P2.y e
 dsimp only at hx hy
 exact rt_inj (m:=plX t) (k:=plQ t) (znj t) (P2.ext' (by omega) (by omega))
theorem zwp{B C:Int}{p q:P2}{t:Tn}(h:PB B p)(h2:PB B q)(g:PB C t.u)(b:B<=1000000000000)(c:C<=1000000000000):zak (zan p t) (zan q t)=zak p q:=by
 rw[zfa (zd8 h b) (zd8 g c),zfa (zd8 h2 b) (zd8 g c)]
 unfold zak rt
 dsimp only
 rcases znj t with e|e|e|e<;>rw[e]<;>cases plX t<;>simp<;>grind
theorem ydz{B C:Int}{c p q:P2}{t:Tn}(hc:PB B c)(h:PB B p)(h2:PB B q)(g:PB C t.u)(b:B<=1000000000000)(c':C<=1000000000000)(k:okI c p q):okI (zan c t) (zan p t) (zan q t):=by
 unfold okI at *
 rw[zwp h hc g b c',zwp h2 hc g b c'];exact k
theorem z22{c p q:P2}(k:okI c p q):okI c q p:=⟨by rw[←k.2];exact k.1,k.2.symm⟩
theorem z7e{B C:Int}{t:Tn}(g:PB C t.u)(b:B<=1000000000000)(c':C<=1000000000000):∀(s:Shp) (d:Int),Fine (PB B) s d->Fine (PB (B+C)) (zga s t) d:=by
 intro s
 induction s with
 |nil=>intro d h;exact h.elim
 |mk k a b' c r l n add sub ih=>
  intro d h
  rcases h with⟨rfl,rfl,rfl,rfl,rfl,ha,hr⟩|⟨rfl,rfl,rfl,rfl,ha,hb,hr⟩|⟨rfl,rfl,rfl,rfl,ha,hb,hr,hn⟩|⟨rfl,rfl,rfl,ha,hb,hc,hr,ho⟩|⟨rfl,rfl,rfl,rfl,rfl,rfl,hc⟩|⟨rfl,rfl,rfl,rfl,rfl,rfl,h5,hm,hs⟩
  ·exact .inl ⟨rfl,rfl,rfl,rfl,rfl,zfi ha g b c',hr⟩
  ·exact .inr (.inl ⟨rfl,rfl,rfl,rfl,zfi ha g b c',zfi hb g b c',hr⟩)
  ·exact .inr (.inr (.inl ⟨rfl,rfl,rfl,rfl,zfi ha g b c',zfi hb g b c',hr,λe=>hn (yd0 ha hb g b c' e)⟩))
  ·refine .inr (.inr (.inr (.inl ?_)))
   show(5:Int)=5/\zeC=zeC/\0=0/\PB (B+C) (bif t.mx != t.my then zan b' t else zan a t)/\PB (B+C) (bif t.mx != t.my then zan a t else zan b' t)/\PB (B+C) (zan c t)/\widF r=true/\okI (zan c t) (bif t.mx != t.my then zan b' t else zan a t) (bif t.mx != t.my then zan a t else zan b' t)
   have o:=ydz hc ha hb g b c' ho
   cases t.mx != t.my
   ·exact⟨rfl,rfl,rfl,zfi ha g b c',zfi hb g b c',zfi hc g b c',hr,o⟩
   ·exact⟨rfl,rfl,rfl,zfi hb g b c',zfi ha g b c',zfi hc g b c',hr,z22 o⟩
  ·exact .inr (.inr (.inr (.inr (.inl ⟨rfl,rfl,rfl,rfl,rfl,rfl,hc.1,λi hi=>⟨(hc.2 i hi).1,λk hk=>zfi ((hc.2 i hi).2 k hk) g b c'⟩⟩))))
  ·exact .inr (.inr (.inr (.inr (.inr ⟨rfl,rfl,rfl,rfl,rfl,rfl,h5,hm,λi hi=>ih i (d+1) (hs i hi)⟩))))
theorem fine_B{P:P2->Prop}:∀(s:Shp) (d:Int),Fine P s d->0<=d->ShB s:=by
 intro s
 induction s with
 |nil=>intro d h;exact h.elim
 |mk k a b' c r l n add sub ih=>
  intro d h h0
  have z:∀i,i<0->ShB (sub i):=λi hi=>absurd hi (Nat.not_lt_zero i)
  rcases h with⟨rfl,rfl,rfl,rfl,rfl,ha,hr⟩|⟨rfl,rfl,rfl,rfl,ha,hb,hr⟩|⟨rfl,rfl,rfl,rfl,ha,hb,hr,hn⟩|⟨rfl,rfl,rfl,ha,hb,hc,hr,ho⟩|⟨rfl,rfl,rfl,rfl,rfl,rfl,hc⟩|⟨rfl,rfl,rfl,rfl,rfl,rfl,h5,hm,hs⟩
  ·exact⟨zex,by decide,z⟩
  ·exact⟨zex,by decide,z⟩
  ·exact⟨zex,by decide,z⟩
  ·exact⟨zex,by decide,z⟩
  ·exact⟨⟨by have:=hc.1;omega,λi hi=>by have:=(hc.2 i hi).1;omega⟩,by decide,z⟩
  ·exact⟨zex,by omega,λi hi=>ih i (d+1) (hs i hi) (by omega)⟩
def rtB(m:Bool)(k:Int)(u:P2)(b:B4):B4:=
 let xl:=bif m then -b.x1 else b.x0
 let xh:=bif m then -b.x0 else b.x1
 ⟨(bif k==1 then -b.y1 else bif k==2 then -xh else bif k==3 then b.y0 else xl)+u.x,(bif k==1 then xl else bif k==2 then -b.y1 else bif k==3 then -xh else b.y0)+u.y,
  (bif k==1 then -b.y0 else bif k==2 then -xl else bif k==3 then b.y1 else xh)+u.x,(bif k==1 then xh else bif k==2 then -b.y0 else bif k==3 then -xl else b.y1)+u.y⟩
theorem B4x{a b:B4}(h0:a.x0=b.x0)(h1:a.y0=b.y0)(h2:a.x1=b.x1)(h3:a.y1=b.y1):a=b:=by
 obtain⟨a0,a1,a2,a3⟩:=a
 obtain⟨b0,b1,b2,b3⟩:=b
 cases h0;cases h1;cases h2;cases h3;rfl
def aroI(p q:P2)(r:Int):B4:=⟨imin p.x q.x-r,imin p.y q.y-r,imax p.x q.x+r,imax p.y q.y+r⟩
theorem yog{p q:P2}(hp:PB 40 p)(hq:PB 40 q):zak p q<=114*114:=by
 have sx:=zus (A:=80) (x:=p.x-q.x) (by have:=hp.1;have:=hq.1;omega) (by have:=hp.1;have:=hq.1;omega)
 have sy:=zus (A:=80) (x:=p.y-q.y) (by have:=hp.2;have:=hq.2;omega) (by have:=hp.2;have:=hq.2;omega)
 unfold zak;omega
end Go.Proofs.YtmekpbopoknigaaGreatDoor
namespace Go.Proofs.YtmekpbopoknigaaGreatDoor
open Go Go.RowKit Sym
def zat(p a e:P2):Bool:=(decide (a.y>p.y)!=decide (e.y>p.y))&&(if e.y>a.y then decide (zad a e p>0)else decide (zad a e p<0))
theorem z06{p a e:P2}(hp:PR p)(ha:PR a)(he:PR e):zdn p a e=zat p a e:=by
 unfold zdn zat
 rw[(zef ha he hp).1]
 by_cases k:e.y>a.y
 ·simp only[k,decide_true,if_true]
  cases decide (a.y>p.y)<;>cases decide (e.y>p.y)<;>rfl
 ·simp only[k,decide_false,if_false]
  cases decide (a.y>p.y)<;>cases decide (e.y>p.y)<;>rfl
def zh7(p:P2):B4:=⟨p.x,p.y,p.x,p.y⟩
def onI(p a e:P2):Bool:=decide (min a.x e.x<=p.x/\p.x<=max a.x e.x/\min a.y e.y<=p.y/\p.y<=max a.y e.y/\zad a e p=0)
theorem ztb(p a e:P2):zca (zh7 p) a e=onI p a e:=by
 have h:∀f:P2->Bool,all4 f (zh7 p)=f p:=λf=>by unfold all4 zh7;dsimp only;cases f ⟨p.x,p.y⟩<;>rfl
 unfold zca
 rw[h,h]
 rw[Bool.eq_iff_iff]
 unfold sepI onI zh7
 simp only[Bool.and_eq_true,Bool.not_eq_true',Bool.or_eq_false_iff,decide_eq_false_iff_not,decide_eq_true_eq]
 omega
theorem zs3{a b:Prop}[Decidable a][Decidable b]:xor (decide a) (decide b)=decide ((a/\¬b)\/(¬a/\b)):=by
 by_cases h:a<;>by_cases k:b<;>simp[h,k]
theorem ztz(b:B4)(p q:P2):zca b q p=zca b p q:=by
 have e:∀c,zad q p c = -(zad p q c):=λc=>by unfold zad;grind
 unfold zca sepI
 rw[show all4 (λc=>decide (zad q p c>0)) b=all4 (λc=>decide (zad p q c<0)) b from by
  unfold all4;simp only[e,show ∀x:Int,decide (-x>0)=decide (x<0)from λx=>by rw[Bool.eq_iff_iff];simp only[decide_eq_true_eq];omega]]
 rw[show all4 (λc=>decide (zad q p c<0)) b=all4 (λc=>decide (zad p q c>0)) b from by
  unfold all4;simp only[e,show ∀x:Int,decide (-x<0)=decide (x>0)from λx=>by rw[Bool.eq_iff_iff];simp only[decide_eq_true_eq];omega]]
 rw[Int.max_comm q.x,Int.max_comm q.y,Int.min_comm q.x,Int.min_comm q.y]
 cases all4 (λc=>decide (zad p q c>0)) b<;>cases all4 (λc=>decide (zad p q c<0)) b<;>rfl
theorem zc4(p a e:P2):zat p e a=zat p a e:=by
 have h:zad e a p = -(zad a e p):=by unfold zad;grind
 unfold zat
 rw[h,Bool.eq_iff_iff]
 by_cases k:e.y>a.y<;>by_cases k':a.y>e.y<;>simp only[k,k',if_true,if_false,Bool.and_eq_true,bne_iff_ne,ne_eq,decide_eq_decide,decide_eq_true_eq]<;>omega
theorem zro{b:B4}{a e p q:P2}(hp:hasI b p)(hq:hasI b q)(h0:zad a e p<=0)(h1:0<=zad a e q)(hs:sepI b a e=false):zca b a e=true:=by
 obtain⟨k,hk,hl⟩:=yh1 a e hp
 obtain⟨k',hk',hl'⟩:=yh2 a e hq
 have f1:all4 (λc=>decide (zad a e c>0)) b=false:=by
  rw[Bool.eq_false_iff];intro h
  have:=z4h.1 h k hk
  simp only[decide_eq_true_eq]at this;omega
 have f2:all4 (λc=>decide (zad a e c<0)) b=false:=by
  rw[Bool.eq_false_iff];intro h
  have:=z4h.1 h k' hk'
  simp only[decide_eq_true_eq]at this;omega
 unfold zca
 rw[hs,f1,f2];rfl
theorem z9j{b:B4}{a e:P2}(h1:b.x0<=max a.x e.x)(h2:min a.x e.x<=b.x1)(h3:b.y0<=max a.y e.y)(h4:min a.y e.y<=b.y1):sepI b a e=false:=by
 unfold sepI
 simp only[Bool.or_eq_false_iff,decide_eq_false_iff_not]
 omega
theorem zvf{a e p:P2}(h1:a.y<=p.y)(h2:p.y<=e.y)(h:a.y<e.y)(hx:p.x<a.x)(hx':p.x<e.x):0<zad a e p:=by
 have e0:zad a e p=(e.x-p.x)*(p.y-a.y)+(a.x-p.x)*(e.y-p.y):=by unfold zad;grind
 have p1:=Int.mul_nonneg (show 0<=e.x-p.x by omega) (show 0<=p.y-a.y by omega)
 have p2:=Int.mul_nonneg (show 0<=a.x-p.x by omega) (show 0<=e.y-p.y by omega)
 rcases(show a.y<p.y\/p.y<e.y by omega)with k|k
 ·have:=Int.mul_pos (show 0<e.x-p.x by omega) (show 0<p.y-a.y by omega);omega
 ·have:=Int.mul_pos (show 0<a.x-p.x by omega) (show 0<e.y-p.y by omega);omega
theorem zp5{a e p:P2}(h1:a.y<=p.y)(h2:p.y<=e.y)(hx:a.x<=p.x)(hx':e.x<=p.x):zad a e p<=0:=by
 have e0:zad a e p = -((p.x-e.x)*(p.y-a.y))-(p.x-a.x)*(e.y-p.y):=by unfold zad;grind
 have p1:=Int.mul_nonneg (show 0<=p.x-e.x by omega) (show 0<=p.y-a.y by omega)
 have p2:=Int.mul_nonneg (show 0<=p.x-a.x by omega) (show 0<=e.y-p.y by omega)
 omega
theorem ziq{p a e:P2}(h:a.y<=e.y):zat p a e=true↔a.y<=p.y/\p.y<e.y/\0<zad a e p:=by
 unfold zat
 by_cases k:e.y>a.y
 ·simp only[k,if_true,Bool.and_eq_true,bne_iff_ne,ne_eq,decide_eq_decide,decide_eq_true_eq];omega
 ·simp only[k,if_false,Bool.and_eq_true,bne_iff_ne,ne_eq,decide_eq_decide,decide_eq_true_eq];omega
theorem z6g{b:B4}{a e p q:P2}(hp:hasI b p)(hq:hasI b q)(hy:p.y=q.y)(hm:zca b a e=false):zat p a e=zat q a e:=by
 have one:∀{a e:P2},a.y<=e.y->zca b a e=false->∀{p q:P2},hasI b p->hasI b q->p.y=q.y->zat p a e=true->zat q a e=true:=by
  intro a e h hm p q hp hq hy hc
  obtain⟨c1,c2,c3⟩:=(ziq h).1 hc
  refine(ziq h).2 ⟨by omega,by omega,?_⟩
  rcases(show 0<zad a e q\/zad a e q<=0 by omega)with g|g
  ·exact g
  ·exfalso
   have hs:sepI b a e=false:=by
    unfold hasI at hp hq
    refine z9j ?_ ?_ (by omega) (by omega)
    ·rcases(show b.x0<=max a.x e.x\/max a.x e.x<b.x0 by omega)with k|k
     ·exact k
     ·have:=zp5 (a:=a) (e:=e) (p:=p) (by omega) (by omega) (by omega) (by omega);omega
    ·rcases(show min a.x e.x<=b.x1\/b.x1<min a.x e.x by omega)with k|k
     ·exact k
     ·have:=zvf (a:=a) (e:=e) (p:=q) (by omega) (by omega) (by omega) (by omega) (by omega);omega
   rw[zro hq hp g (by omega) hs]at hm;cases hm
 rw[Bool.eq_iff_iff]
 rcases Int.le_total a.y e.y with h|h
 ·exact⟨one h hm hp hq hy,one h hm hq hp hy.symm⟩
 ·rw[←zc4 p,←zc4 q]
  rw[←ztz]at hm
  exact⟨one h hm hp hq hy,one h hm hq hp hy.symm⟩
def zo9(u v v':Int)(w:P2):Bool:=decide (v<w.y/\w.y<=v'/\u<w.x)
theorem ycf(a e:P2)(u:Int):zad a e ⟨u,e.y⟩=(e.y-a.y)*(e.x-u)/\zad a e ⟨u,a.y⟩=(e.y-a.y)*(a.x-u):=by
 unfold zad;dsimp only;constructor<;>grind
theorem z27{t x:Int}(h:0<=t):(0<x/\0<=t*x)\/(x=0/\t*x=0)\/(x<0/\t*x<=0):=by
 rcases(show 0<x\/x=0\/x<0 by omega)with k|k|k
 ·exact .inl ⟨k,Int.mul_nonneg h (by omega)⟩
 ·subst k;exact .inr (.inl ⟨rfl,Int.mul_zero _⟩)
 ·have:=Int.mul_nonneg h (show 0<=-x by omega)
  rw[Int.mul_neg]at this;exact .inr (.inr ⟨k,by omega⟩)
theorem z42{ay ey ax ex u v v' G1 G2:Int}(h:ay<=ey)(hv:v<=v')
  (hC:ay<=v->v'<ey->(0<G1↔0<G2)) (hD:ay<=v->v<ey->ey<=v'->(0<G1↔u<ex)) (hE:v<ay->ay<=v'->v'<ey->(0<G2↔u<ax)) (hF:v<ay->ey<=v'->(u<ax↔u<ex)) :
  xor (decide (ay<=v/\v<ey/\0<G1)) (decide (ay<=v'/\v'<ey/\0<G2))=xor (decide (v<ay/\ay<=v'/\u<ax)) (decide (v<ey/\ey<=v'/\u<ex)):=by
 have D:∀{a b:Prop} [Decidable a] [Decidable b],(a↔b)->decide a=decide b:=λh=>decide_eq_decide.2 h
 have N:∀{a:Prop} [Decidable a],¬a->decide a=false:=λh=>decide_eq_false h
 rcases(show ey<=v\/v'<ay\/(ay<=v/\v'<ey)\/(ay<=v/\v<ey/\ey<=v')\/(v<ay/\ay<=v'/\v'<ey)\/(v<ay/\ey<=v')by omega)with k|k|⟨k1,k2⟩|⟨k1,k2,k3⟩|⟨k1,k2,k3⟩|⟨k1,k2⟩
 ·rw[N (show ¬(ay<=v/\v<ey/\0<G1)by omega),N (show ¬(ay<=v'/\v'<ey/\0<G2)by omega),N (show ¬(v<ay/\ay<=v'/\u<ax)by omega),N (show ¬(v<ey/\ey<=v'/\u<ex)by omega)]
 ·rw[N (show ¬(ay<=v/\v<ey/\0<G1)by omega),N (show ¬(ay<=v'/\v'<ey/\0<G2)by omega),N (show ¬(v<ay/\ay<=v'/\u<ax)by omega),N (show ¬(v<ey/\ey<=v'/\u<ex)by omega)]
 ·have:=hC k1 k2
  rw[D (show(ay<=v/\v<ey/\0<G1)↔0<G1 from⟨λz=>z.2.2,λz=>⟨k1,by omega,z⟩⟩),D (show(ay<=v'/\v'<ey/\0<G2)↔0<G1 from⟨λz=>this.2 z.2.2,λz=>⟨by omega,k2,this.1 z⟩⟩),N (show ¬(v<ay/\ay<=v'/\u<ax)by omega),N (show ¬(v<ey/\ey<=v'/\u<ex)by omega)]
  simp
 ·have:=hD k1 k2 k3
  rw[D (show(ay<=v/\v<ey/\0<G1)↔u<ex from⟨λz=>this.1 z.2.2,λz=>⟨k1,k2,this.2 z⟩⟩),N (show ¬(ay<=v'/\v'<ey/\0<G2)by omega),N (show ¬(v<ay/\ay<=v'/\u<ax)by omega),D (show(v<ey/\ey<=v'/\u<ex)↔u<ex from⟨λz=>z.2.2,λz=>⟨k2,k3,z⟩⟩)]
  simp
 ·have:=hE k1 k2 k3
  rw[N (show ¬(ay<=v/\v<ey/\0<G1)by omega),D (show(ay<=v'/\v'<ey/\0<G2)↔u<ax from⟨λz=>this.1 z.2.2,λz=>⟨k2,k3,this.2 z⟩⟩),D (show(v<ay/\ay<=v'/\u<ax)↔u<ax from⟨λz=>z.2.2,λz=>⟨k1,k2,z⟩⟩),N (show ¬(v<ey/\ey<=v'/\u<ex)by omega)]
  simp
 ·have:=hF k1 k2
  rw[N (show ¬(ay<=v/\v<ey/\0<G1)by omega),N (show ¬(ay<=v'/\v'<ey/\0<G2)by omega),D (show(v<ay/\ay<=v'/\u<ax)↔u<ax from⟨λz=>z.2.2,λz=>⟨k1,by omega,z⟩⟩),D (show(v<ey/\ey<=v'/\u<ex)↔u<ax from⟨λz=>this.2 z.2.2,λz=>⟨by omega,k2,this.1 z⟩⟩)]
  simp
theorem z6h{b:B4}{a e:P2}{u v v':Int}(hv:v<=v')(hp:hasI b ⟨u,v⟩)(hq:hasI b ⟨u,v'⟩)(hm:zca b a e=false):xor (zat ⟨u,v⟩ a e) (zat ⟨u,v'⟩ a e)=xor (zo9 u v v' a) (zo9 u v v' e):=by
 have one:∀{a e:P2},a.y<=e.y->zca b a e=false->xor (zat ⟨u,v⟩ a e) (zat ⟨u,v'⟩ a e)=xor (zo9 u v v' a) (zo9 u v v' e):=by
  intro a e h hm
  have c1:=ziq (p:=⟨u,v⟩) h
  have c2:=ziq (p:=⟨u,v'⟩) h
  obtain⟨ee,ea⟩:=ycf a e u
  have se:=z27 (t:=e.y-a.y) (x:=e.x-u) (by omega)
  have sa:=z27 (t:=e.y-a.y) (x:=a.x-u) (by omega)
  rw[←ee]at se
  rw[←ea]at sa
  have hu:b.x0<=u/\u<=b.x1/\b.y0<=v/\v'<=b.y1:=by unfold hasI at hp hq;dsimp only at *;omega
  have rl:∀y,v<=y->y<=v'->hasI b ⟨u,y⟩:=λy h1 h2=>by unfold hasI;dsimp only;omega
  have no:∀y y',v<=y->y<=v'->v<=y'->y'<=v'->a.y<=v'->v<=e.y->min a.x e.x<=u->u<=max a.x e.x->¬(zad a e ⟨u,y⟩<=0/\0<=zad a e ⟨u,y'⟩):=λy y' h1 h2 h3 h4 h5 h6 h7 h8 g=>by
   rw[zro (rl y h1 h2) (rl y' h3 h4) g.1 g.2 (z9j (by omega) (by omega) (by omega) (by omega))]at hm;cases hm
  have lf:∀y,a.y<=y->y<=e.y->a.y<e.y->u<a.x->u<e.x->0<zad a e ⟨u,y⟩:=λy h1 h2 h3 h4 h5=>zvf (p:=⟨u,y⟩) h1 h2 h3 h4 h5
  have rt:∀y,a.y<=y->y<=e.y->a.x<=u->e.x<=u->zad a e ⟨u,y⟩<=0:=λy h1 h2 h4 h5=>zp5 (p:=⟨u,y⟩) h1 h2 h4 h5
  dsimp only at c1 c2
  have X1:zat ⟨u,v⟩ a e=decide (a.y<=v/\v<e.y/\0<zad a e ⟨u,v⟩):=by rw[Bool.eq_iff_iff,decide_eq_true_eq];exact c1
  have X2:zat ⟨u,v'⟩ a e=decide (a.y<=v'/\v'<e.y/\0<zad a e ⟨u,v'⟩):=by rw[Bool.eq_iff_iff,decide_eq_true_eq];exact c2
  rw[X1,X2]
  unfold zo9
  have lr:(u<a.x/\u<e.x)\/(a.x<=u/\e.x<=u)\/(min a.x e.x<=u/\u<=max a.x e.x):=by omega
  refine z42 h hv (λk1 k2=>?_) (λk1 k2 k3=>?_) (λk1 k2 k3=>?_) (λk1 k2=>?_)
  ·rcases lr with⟨g1,g2⟩|⟨g1,g2⟩|⟨g1,g2⟩
   ·exact⟨λ_=>lf v' (by omega) (by omega) (by omega) g1 g2,λ_=>lf v (by omega) (by omega) (by omega) g1 g2⟩
   ·have r1:=rt v (by omega) (by omega) g1 g2
    have r2:=rt v' (by omega) (by omega) g1 g2
    omega
   ·have n1:=no v v' (Int.le_refl _) hv hv (Int.le_refl _) (by omega) (by omega) g1 g2
    have n2:=no v' v hv (Int.le_refl _) (Int.le_refl _) hv (by omega) (by omega) g1 g2
    omega
  ·rcases lr with⟨g1,g2⟩|⟨g1,g2⟩|⟨g1,g2⟩
   ·exact⟨λ_=>g2,λ_=>lf v (by omega) (by omega) (by omega) g1 g2⟩
   ·have r1:=rt v (by omega) (by omega) g1 g2
    omega
   ·have n1:=no v e.y (Int.le_refl _) hv (by omega) (by omega) (by omega) (by omega) g1 g2
    have n2:=no e.y v (by omega) (by omega) (Int.le_refl _) hv (by omega) (by omega) g1 g2
    omega
  ·rcases lr with⟨g1,g2⟩|⟨g1,g2⟩|⟨g1,g2⟩
   ·exact⟨λ_=>g1,λ_=>lf v' (by omega) (by omega) (by omega) g1 g2⟩
   ·have r1:=rt v' (by omega) (by omega) g1 g2
    omega
   ·have n1:=no v' a.y hv (Int.le_refl _) (by omega) (by omega) (by omega) (by omega) g1 g2
    have n2:=no a.y v' (by omega) (by omega) hv (Int.le_refl _) (by omega) (by omega) g1 g2
    omega
  ·rcases lr with⟨g1,g2⟩|⟨g1,g2⟩|⟨g1,g2⟩
   ·omega
   ·omega
   ·have n1:=no a.y e.y (by omega) (by omega) (by omega) (by omega) (by omega) (by omega) g1 g2
    have n2:=no e.y a.y (by omega) (by omega) (by omega) (by omega) (by omega) (by omega) g1 g2
    omega
 rcases Int.le_total a.y e.y with h|h
 ·exact one h hm
 ·rw[←ztz]at hm
  rw[←zc4 ⟨u,v⟩,←zc4 ⟨u,v'⟩,one h hm,Bool.xor_comm]
theorem zcw{f g:Nat->Bool}:∀{n:Nat},(∀k,k<n->f k=g k)->parN f n=parN g n
 |0,_=>rfl
 |n+1,h=>by simp only[parN];rw[zcw λk hk=>h k (by omega),h n (by omega)]
theorem zo4{f g:Nat->Bool}:∀{n:Nat},(∀k,k<n->f k=g k)->anyN f n=anyN g n
 |0,_=>rfl
 |n+1,h=>by simp only[anyN];rw[zo4 λk hk=>h k (by omega),h n (by omega)]
theorem znk(f g:Nat->Bool):∀n,xor (parN f n) (parN g n)=parN (λk=>xor (f k) (g k)) n
 |0=>rfl
 |n+1=>by
  simp only[parN,←znk f g n]
  cases parN f n<;>cases parN g n<;>cases f n<;>cases g n<;>rfl
theorem zia:∀n,parN (λ_=>false) n=false
 |0=>rfl
 |n+1=>by simp only[parN,zia n];rfl
theorem yao{m k:Nat}(h:k+1<m):nxt m k=k+1:=by
 unfold nxt
 rw[Int.tmod_eq_of_lt (by omega) (by omega)];omega
theorem yap(M:Nat):nxt (M+1) M=0:=by
 unfold nxt
 rw[show((M:Int)+1)=((M+1:Nat):Int)by omega,Int.tmod_self];rfl
theorem zxs{m k:Nat}(h:k<m):nxt m k<m:=by
 rcases(show k+1<m\/k+1=m by omega)with g|g
 ·rw[yao g];exact g
 ·subst g;rw[yap];omega
theorem yaa(R:Nat->Bool):∀n,parN (λk=>xor (R k) (R (k+1))) n=xor (R 0) (R n)
 |0=>by simp[parN]
 |n+1=>by
  simp only[parN,yaa R n]
  cases R 0<;>cases R n<;>cases R (n+1)<;>rfl
theorem zxn(R:Nat->Bool)(m:Nat):parN (λk=>xor (R k) (R (nxt m k))) m=false:=by
 cases m with
 |zero=>rfl
 |succ M=>
  simp only[parN]
  rw[zcw (g:=λk=>xor (R k) (R (k+1))) λk hk=>by rw[yao (by omega)],yaa,yap]
  cases R 0<;>cases R M<;>rfl
structure PRC(l:Ctr):Prop where
 p:∀i,i<l.n->∀k,k<l.m i->PR (l.p i k)
def oddI(p:P2)(l:Ctr):Bool:=parN (λi=>parN (zg6 l (zat p) i) (l.m i)) l.n
def zco(b:B4)(l:Ctr):Bool:=anyN (λi=>anyN (zg6 l (zca b) i) (l.m i)) l.n
theorem z0h{p:P2}{l:Ctr}(hp:PR p)(hl:PRC l):oddF p l=oddI p l:=zcw λi hi=>zcw λk hk=>z06 hp (hl.p i hi k hk) (hl.p i hi _ (zxs hk))
theorem zqt{b:B4}{l:Ctr}(hb:BR b)(hx:b.x0<=b.x1)(hy:b.y0<=b.y1)(hl:PRC l):zo8 b l=zco b l:=zo4 λi hi=>zo4 λk hk=>z3e hb (hl.p i hi k hk) (hl.p i hi _ (zxs hk)) hx hy
theorem zm6{b:B4}{l:Ctr}(h:zco b l=false):∀i,i<l.n->∀k,k<l.m i->zca b (l.p i k) (l.p i (nxt (l.m i) k))=false:=λi hi k hk=>by
 cases hq:zca b (l.p i k) (l.p i (nxt (l.m i) k))with
 |false=>rfl
 |true=>
  have:zco b l=true:=zhr.2 ⟨i,hi,zhr.2 ⟨k,hk,hq⟩⟩
  rw[h]at this;cases this
theorem ygo{b:B4}{l:Ctr}{p q:P2}(h:zco b l=false)(hp:hasI b p)(hq:hasI b q)(hy:p.y=q.y):oddI p l=oddI q l:=
 zcw λi hi=>zcw λk hk=>z6g hp hq hy (zm6 h i hi k hk)
theorem z24{b:B4}{l:Ctr}{u v v':Int}(h:zco b l=false)(hv:v<=v')(hp:hasI b ⟨u,v⟩)(hq:hasI b ⟨u,v'⟩):oddI ⟨u,v⟩ l=oddI ⟨u,v'⟩ l:=by
 have e:xor (oddI ⟨u,v⟩ l) (oddI ⟨u,v'⟩ l)=false:=by
  unfold oddI
  rw[znk,zcw (g:=λ_=>false) λi hi=>?_,zia]
  rw[znk,zcw (f:=λk=>xor (zg6 l (zat ⟨u,v⟩) i k) (zg6 l (zat ⟨u,v'⟩) i k)) (g:=λk=>xor (zo9 u v v' (l.p i k)) (zo9 u v v' (l.p i (nxt (l.m i) k)))) λk hk=>z6h hv hp hq (zm6 h i hi k hk)]
  exact zxn (λk=>zo9 u v v' (l.p i k)) (l.m i)
 revert e
 cases oddI ⟨u,v⟩ l<;>cases oddI ⟨u,v'⟩ l<;>simp
theorem z0g{b:B4}{l:Ctr}{p q:P2}(h:zco b l=false)(hp:hasI b p)(hq:hasI b q):oddI p l=oddI q l:=by
 have hm:hasI b ⟨p.x,q.y⟩:=⟨hp.1,hp.2.1,hq.2.2.1,hq.2.2.2⟩
 have e1:oddI p l=oddI ⟨p.x,q.y⟩ l:=by
  rcases Int.le_total p.y q.y with k|k
  ·exact z24 (u:=p.x) (v:=p.y) h k hp hm
  ·exact(z24 (u:=p.x) (v':=p.y) h k hm hp).symm
 rw[e1]
 exact ygo h hm hq rfl
theorem yae{b:B4}{p a e:P2}(hp:hasI b p)(h:onI p a e=true):zca b a e=true:=by
 unfold onI at h
 rw[decide_eq_true_eq]at h
 obtain⟨h1,h2,h3,h4,h5⟩:=h
 unfold hasI at hp
 exact zro (p:=p) (q:=p) hp hp (by omega) (by omega) (z9j (by omega) (by omega) (by omega) (by omega))
theorem zs8{b:B4}{l:Ctr}{p:P2}(h:zco b l=false)(hp:hasI b p):zco (zh7 p) l=false:=by
 rw[Bool.eq_false_iff]
 intro hq
 obtain⟨i,hi,hq⟩:=zhr.1 hq
 obtain⟨k,hk,hq⟩:=zhr.1 hq
 have:=zm6 h i hi k hk
 unfold zg6 at hq
 rw[ztb]at hq
 rw[yae hp hq]at this;cases this
end Go.Proofs.YtmekpbopoknigaaGreatDoor
namespace Go.Proofs.YtmekpbopoknigaaGreatDoor
open Go Go.RowKit Sym
set_option maxRecDepth 100000
structure Sure(i:Bool)(k:Int):Prop where
 lo:0<=k
 hi:k<=2
 i1:k=2->i=true
 i0:k=0->i=false
theorem Sure.of{i:Bool}{k:Int}(h:andB (andB (andB (andB (orB (k != 2) i) (orB (k != 0) (!i))) (decide (k>=0))) (decide (k<=2))) true=true):Sure i k:=by
 simp only[zew,zgw,Bool.and_eq_true,Bool.or_eq_true,bne_iff_ne,decide_eq_true_eq,Bool.not_eq_true']at h
 obtain⟨⟨⟨⟨h1,h2⟩,h3⟩,h4⟩,_⟩:=h
 exact⟨h3,h4,λe=>h1.resolve_left λq=>q e,λe=>h2.resolve_left λq=>q e⟩
def hasN(g:Nat->Bool)(add:Nat->Bool)(i:Nat)(h:Bool):Bool:=bif g i then add i else h
theorem z3n(g:Nat->Bool)(add:Nat->Bool)(n:Nat):∀t,t<=n->(((runN (λt (_:Bool)=>bif g (n-1-t)then(false,add (n-1-t))else(true,false)) false t).1=true->zax (hasN g add) false n=zax (hasN g add) false (n-t)/\(runN (λt (_:Bool)=>bif g (n-1-t)then(false,add (n-1-t))else(true,false)) false t).2=false)
  /\((runN (λt (_:Bool)=>bif g (n-1-t)then(false,add (n-1-t))else(true,false)) false t).1=false->(runN (λt (_:Bool)=>bif g (n-1-t)then(false,add (n-1-t))else(true,false)) false t).2=zax (hasN g add) false n))
 |0,_=>⟨λ_=>⟨rfl,rfl⟩,λh=>(by cases h)⟩
 |t+1,ht=>by
  have ih:=z3n g add n t (by omega)
  revert ih
  generalize hr:runN (λt (_:Bool)=>bif g (n-1-t)then(false,add (n-1-t))else(true,false)) false t=r
  intro ih
  obtain⟨r1,r2⟩:=r
  cases r1
  ·rw[znc hr (by omega:t<=t+1)]
   exact⟨λh=>(by cases h),λ_=>ih.2 rfl⟩
  ·rw[zq3 hr]
   have e:=(ih.1 rfl).1
   have em:n-t=(n-1-t)+1:=by omega
   have e2:zax (hasN g add) false (n-t)=bif g (n-1-t)then add (n-1-t)else zax (hasN g add) false (n-1-t):=by rw[em];rfl
   cases q:g (n-1-t)
   ·refine⟨λ_=>⟨?_,rfl⟩,λh=>(by cases h)⟩
    rw[e,e2,q,show n-(t+1)=n-1-t by omega];rfl
   ·refine⟨λh=>(by cases h),λ_=>?_⟩
    rw[e,e2,q];rfl
theorem yhl(g:Nat->Bool)(add:Nat->Bool)(n:Nat):(runN (λt (_:Bool)=>bif g (n-1-t)then(false,add (n-1-t))else(true,false)) false n).2=zax (hasN g add) false n:=by
 have h:=z3n g add n n (Nat.le_refl n)
 revert h
 generalize runN (λt (_:Bool)=>bif g (n-1-t)then(false,add (n-1-t))else(true,false)) false n=r
 intro h
 obtain⟨r1,r2⟩:=r
 cases r1
 ·exact h.2 rfl
 ·have q:=h.1 rfl
  rw[q.1,Nat.sub_self];exact q.2
theorem zj5{r:Int}(h:widF r=true):1<=r/\r<=536870912:=by
 unfold widF at h
 rw[zew,Bool.and_eq_true,decide_eq_true_eq,decide_eq_true_eq]at h
 omega
theorem tmX_le(sm:Bool):tmX sm<=536870912:=by cases sm<;>decide
theorem ru_sq{v:Int}(hv:v<=4611686018427387904):∀k,k<=ruN v->ruI (zax (ruG v) ruA k)/\v<=(zax (ruG v) ruA k).2*(zax (ruG v) ruA k).2:=λk=>by
 induction k with
 |zero=>intro _;exact⟨(⟨by decide,by decide,by decide⟩:ruI ruA),by show v<=2147483648*2147483648;omega⟩
 |succ k ih=>
  intro hk
  have q:=ih (by omega)
  have lt:=(z2h v).1 k (by omega)
  have st:=z9o (v:=v) q.1 lt
  refine⟨st.1,?_⟩
  have m:=yj1 q.1
  show v<=(zhk v (zax (ruG v) ruA k)).2*(zhk v (zax (ruG v) ruA k)).2
  generalize zax (ruG v) ruA k=a at *
  obtain⟨q1,q2,q3⟩:=q.1
  have bd:ruM a*ruM a<=2147483648*2147483648:=Int.mul_le_mul (by omega) (by omega) (by omega) (by decide)
  have nn:0<=ruM a*ruM a:=Int.mul_nonneg (by omega) (by omega)
  unfold zhk
  rw[W_id (x:=ruM a*ruM a) (by omega) (by omega)]
  by_cases h:ruM a*ruM a>=v
  ·rw[decide_eq_true h];exact h
  ·rw[decide_eq_false h];exact q.2
theorem zzy{v:Int}(hv:v<=4611686018427387904):0<=rupF v/\rupF v<=2147483648/\v<=rupF v*rupF v:=by
 have q:=ru_sq hv (ruN v) (Nat.le_refl _)
 have e:=(z2h v).2
 obtain⟨⟨q1,q2,q3⟩,q4⟩:=q
 have:(zax (ruG v) ruA (ruN v)).1=(zax (ruG v) ruA (ruN v)).2:=by omega
 unfold rupF
 rw[this]
 rw[this]at q1
 exact⟨q1,q3,q4⟩
theorem znb{e s:Int}(hs:0<=s)(h:e*e<=s*s) : -s<=e/\e<=s:=by
 constructor
 ·rcases Int.lt_or_le e (-s)with k|k
  ·have:=Int.mul_le_mul (show s+1<=-e by omega) (show s+1<=-e by omega) (by omega) (by omega)
   have e1 : -e * -e=e*e:=by grind
   have e2:(s+1)*(s+1)=s*s+2*s+1:=by grind
   omega
  ·exact k
 ·rcases Int.lt_or_le s e with k|k
  ·have:=Int.mul_le_mul (show s+1<=e by omega) (show s+1<=e by omega) (by omega) (by omega)
   have e2:(s+1)*(s+1)=s*s+2*s+1:=by grind
   omega
  ·exact k
theorem zcm(x y:Int):imin x y<=x/\imin x y<=y/\(imin x y=x\/imin x y=y):=by unfold imin;split<;>omega
theorem zcn(x y:Int):x<=imax x y/\y<=imax x y/\(imax x y=x\/imax x y=y):=by unfold imax;split<;>omega
abbrev FF:Int:=536870912
theorem z1j{p q:P2}{r:Int}(hp:PB FF p)(hq:PB FF q)(h0:0<=r)(h1:r<=8589934592):zct p q r=⟨imax (imin p.x q.x-r) (-FF),imax (imin p.y q.y-r) (-FF),imin (imax p.x q.x+r) FF,imin (imax p.y q.y+r) FF⟩:=by
 obtain⟨⟨p1,p2⟩,p3,p4⟩:=hp
 obtain⟨⟨q1,q2⟩,q3,q4⟩:=hq
 have e1:=zcm p.x q.x
 have e2:=zcm p.y q.y
 have e3:=zcn p.x q.x
 have e4:=zcn p.y q.y
 unfold zct
 generalize imin p.x q.x=a at *
 generalize imin p.y q.y=b at *
 generalize imax p.x q.x=c at *
 generalize imax p.y q.y=d at *
 unfold FF at *
 rw[W_id (x:=a-r) (by omega) (by omega),W_id (x:=b-r) (by omega) (by omega),W_id (x:=c+r) (by omega) (by omega),W_id (x:=d+r) (by omega) (by omega)]
theorem zsn{p q z:P2}{r:Int}(hp:PB FF p)(hq:PB FF q)(h0:0<=r)(h1:r<=8589934592)(hz:PB FF z):hasI (zct p q r) z↔hasI (aroI p q r) z:=by
 rw[z1j hp hq h0 h1]
 obtain⟨⟨z1,z2⟩,z3,z4⟩:=hz
 unfold hasI aroI
 dsimp only
 generalize imin p.x q.x=a
 generalize imin p.y q.y=b
 generalize imax p.x q.x=c
 generalize imax p.y q.y=d
 have e1:=zcn (a-r) (-FF)
 have e2:=zcn (b-r) (-FF)
 have e3:=zcm (c+r) FF
 have e4:=zcm (d+r) FF
 unfold FF at *
 omega
theorem zn2{p q:P2}{r:Int}(hp:PB FF p)(hq:PB FF q)(h0:0<=r)(h1:r<=8589934592):Fits (zct p q r):=by
 rw[z1j hp hq h0 h1]
 obtain⟨⟨p1,p2⟩,p3,p4⟩:=hp
 obtain⟨⟨q1,q2⟩,q3,q4⟩:=hq
 have e1:=zcm p.x q.x
 have e2:=zcm p.y q.y
 have e3:=zcn p.x q.x
 have e4:=zcn p.y q.y
 generalize imin p.x q.x=a at *
 generalize imin p.y q.y=b at *
 generalize imax p.x q.x=c at *
 generalize imax p.y q.y=d at *
 have f1:=zcn (a-r) (-FF)
 have f2:=zcn (b-r) (-FF)
 have f3:=zcm (c+r) FF
 have f4:=zcm (d+r) FF
 unfold FF at *
 constructor<;>dsimp only<;>omega
def Off(U b:B4):Prop:=U.x1<b.x0\/b.x1<U.x0\/U.y1<b.y0\/b.y1<U.y0
theorem z1i{p q:P2}{b:B4}{r:Int}(hp:PB FF p)(hq:PB FF q)(h0:0<=r)(h1:r<=8589934592)(hb:Fits b)(h:Off (zct p q r) b):Off (aroI p q r) b:=by
 rw[z1j hp hq h0 h1]at h
 obtain⟨b1,b2,b3,b4,b5,b6⟩:=hb
 unfold Off aroI at *
 dsimp only at *
 generalize imin p.x q.x=a at *
 generalize imin p.y q.y=b' at *
 generalize imax p.x q.x=c at *
 generalize imax p.y q.y=d at *
 have f1:=zcn (a-r) (-FF)
 have f2:=zcn (b'-r) (-FF)
 have f3:=zcm (c+r) FF
 have f4:=zcm (d+r) FF
 unfold FF at *
 omega
theorem z0f{U b:B4}{z:P2}(h:Off U b)(hb:hasI b z):¬hasI U z:=by
 unfold Off hasI at *
 omega
theorem zqe{p c:P2}{r:Int}(h0:0<=r)(h:zak p c<=r*r):hasI (aroI c c r) p:=by
 have s1:=zgp (p.x-c.x)
 have s2:=zgp (p.y-c.y)
 unfold zak at h
 have a1:=znb (e:=p.x-c.x) h0 (by omega)
 have a2:=znb (e:=p.y-c.y) h0 (by omega)
 have e1:=zcm c.x c.x
 have e2:=zcm c.y c.y
 have e3:=zcn c.x c.x
 have e4:=zcn c.y c.y
 unfold hasI aroI
 dsimp only
 omega
theorem z9k{n m px ax cx r lo:Int}(n0:0<n)(m0:0<=m)(mn:m<=n)(hr:0<=r)(he:(n*(px-ax)-m*(cx-ax))*(n*(px-ax)-m*(cx-ax))<=n*n*(r*r))(h1:lo<=ax)(h2:lo<=cx):lo-r<=px:=by
 have e1:n*n*(r*r)=(n*r)*(n*r):=by grind
 rw[e1]at he
 have a1:=(znb (Int.mul_nonneg (by omega) hr) he).1
 have k1:(n-m)*lo<=(n-m)*ax:=Int.mul_le_mul_of_nonneg_left h1 (by omega)
 have k2:m*lo<=m*cx:=Int.mul_le_mul_of_nonneg_left h2 m0
 have e2:n*(px-ax)-m*(cx-ax)=n*px-((n-m)*ax+m*cx):=by grind
 have e3:(n-m)*lo+m*lo=n*lo:=by grind
 have e4:n*(lo-r)=n*lo-n*r:=by grind
 exact Int.le_of_mul_le_mul_left (show n*(lo-r)<=n*px by omega) n0
theorem yjz{n m px ax cx r hi:Int}(n0:0<n)(m0:0<=m)(mn:m<=n)(hr:0<=r)(he:(n*(px-ax)-m*(cx-ax))*(n*(px-ax)-m*(cx-ax))<=n*n*(r*r))(h1:ax<=hi)(h2:cx<=hi):px<=hi+r:=by
 have:=z9k (px:=-px) (ax:=-ax) (cx:=-cx) (lo:=-hi) n0 m0 mn hr (by
  have e:n*(-px - -ax)-m*(-cx - -ax) = -(n*(px-ax)-m*(cx-ax)):=by grind
  rw[e]
  have e2 : -(n*(px-ax)-m*(cx-ax)) * -(n*(px-ax)-m*(cx-ax))=(n*(px-ax)-m*(cx-ax))*(n*(px-ax)-m*(cx-ax)):=by grind
  rw[e2];exact he) (by omega) (by omega)
 omega
theorem z0d{p a c:P2}{r:Int}(h0:0<=r)(h:OnS p a c (r*r)):hasI (aroI a c r) p:=by
 obtain⟨m,n,n0,m0,mn,hd⟩:=h
 have s1:=zgp (n*(p.x-a.x)-m*(c.x-a.x))
 have s2:=zgp (n*(p.y-a.y)-m*(c.y-a.y))
 have e1:=zcm a.x c.x
 have e2:=zcm a.y c.y
 have e3:=zcn a.x c.x
 have e4:=zcn a.y c.y
 exact⟨z9k n0 m0 mn h0 (by omega) e1.1 e1.2.1,yjz n0 m0 mn h0 (by omega) e3.1 e3.2.1,z9k n0 m0 mn h0 (by omega) e2.1 e2.2.1,yjz n0 m0 mn h0 (by omega) e4.1 e4.2.1⟩
theorem yij{p a c:P2}{r:Int}(h:barI p a c r=true):zih p a c r=true:=by
 unfold barI at h
 simp only[Bool.and_eq_true,Bool.not_eq_true',decide_eq_true_eq,decide_eq_false_iff_not]at h
 obtain⟨⟨⟨⟨hs,h1⟩,hc⟩,hd0⟩,hd1⟩:=h
 have hall:0<zak a c:=by
  have:=zff a c
  have:=(not_congr (yhu a c)).2 hs
  omega
 have l1:=z3i a c p
 have l2:=zx4 a c p
 have hc':=hc
 unfold clear at hc
 rw[decide_eq_true_eq]at hc
 unfold zih
 by_cases k:dotI a c p<=0
 ·rw[if_pos k,decide_eq_true_eq]
  have z:dotI a c p=0:=by omega
  rw[z]at l1
  have e:r*r*zak a c=zak a c*(r*r):=by grind
  exact Int.le_of_mul_le_mul_left (show zak a c*zak p a<=zak a c*(r*r)by omega) hall
 ·rw[if_neg k]
  by_cases k2:dotI a c p>=zak a c
  ·rw[if_pos k2,decide_eq_true_eq]
   have z:dotI a c p-zak a c=0:=by omega
   rw[z]at l2
   have e:r*r*zak a c=zak a c*(r*r):=by grind
   exact Int.le_of_mul_le_mul_left (show zak a c*zak p c<=zak a c*(r*r)by omega) hall
  ·rw[if_neg k2];exact hc'
theorem zqa{b:B4}{a c q:P2}{r:Int}(hx:b.x0<=b.x1)(hy:b.y0<=b.y1)(h0:0<=r)(ho:Off (aroI a c r) b)(hq:q=a\/q=c):r*r<zc6 b q:=by
 rcases Int.lt_or_le (r*r) (zc6 b q)with k|k
 ·exact k
 ·rw[zpg hx hy]at k
  have hb:hasI b (zoh b q):=by
   unfold zoh hasI
   dsimp only
   omega
  have:=zqe h0 k
  refine absurd ?_ (z0f ho hb)
  have e1:=zcm a.x c.x
  have e2:=zcm a.y c.y
  have e3:=zcn a.x c.x
  have e4:=zcn a.y c.y
  have f1:=zcm q.x q.x
  have f2:=zcm q.y q.y
  have f3:=zcn q.x q.x
  have f4:=zcn q.y q.y
  unfold hasI aroI at *
  dsimp only at *
  rcases hq with rfl|rfl<;>omega
theorem yhb{b:B4}{a c:P2}{r:Int}(hx:b.x0<=b.x1)(hy:b.y0<=b.y1)(h0:0<=r)(ho:Off (aroI a c r) b):zrv b a c r=0:=by
 have none:∀k,isC b k->zih k a c r=false:=λk hk=>by
  cases h:zih k a c r with
  |false=>rfl
  |true=>exact absurd (z0d h0 (zru.1 h)) (z0f ho (ynm hx hy hk))
 have c0:zih ⟨b.x0,b.y0⟩ a c r=false:=none _ ⟨.inl rfl,.inl rfl⟩
 unfold zrv
 have h4:all4 (λq=>zih q a c r) b=false:=by
  unfold all4
  dsimp only
  rw[c0];rfl
 have h5:any4 (λq=>zih q a c r) b=false:=by
  rw[Bool.eq_false_iff]
  intro h
  obtain⟨k,hk,h⟩:=yio.1 h
  rw[none k hk]at h;cases h
 have h6:=zqa (q:=a) hx hy h0 ho (.inl rfl)
 have h7:=zqa (q:=c) hx hy h0 ho (.inr rfl)
 have h8:zca b a c=false:=by
  unfold zca sepI
  have e1:=zcm a.x c.x
  have e2:=zcm a.y c.y
  have e3:=zcn a.x c.x
  have e4:=zcn a.y c.y
  have:decide (max a.x c.x<b.x0)=true\/decide (min a.x c.x>b.x1)=true\/decide (max a.y c.y<b.y0)=true\/decide (min a.y c.y>b.y1)=true:=by
   simp only[decide_eq_true_eq]
   unfold Off aroI at ho
   dsimp only at ho
   omega
  rcases this with h|h|h|h<;>rw[h]<;>simp
 rw[h4,h5,h8,decide_eq_false (by omega),decide_eq_false (by omega)]
 rfl
theorem zsc{p c e:P2}{r:Int}(h:zak p e<=r*r):outI (zak p c) (zak e c) r=true/\insI (zak p c) (zak e c) r=true:=by
 have hp:∃px,px=p.x-c.x:=⟨_,rfl⟩
 have hp':∃py,py=p.y-c.y:=⟨_,rfl⟩
 have hq:∃qx,qx=p.x-e.x:=⟨_,rfl⟩
 have hq':∃qy,qy=p.y-e.y:=⟨_,rfl⟩
 obtain⟨px,epx⟩:=hp;obtain⟨py,epy⟩:=hp';obtain⟨qx,eqx⟩:=hq;obtain⟨qy,eqy⟩:=hq'
 have d:zak p c=px*px+py*py:=by unfold zak;rw[←epx,←epy]
 have s:zak p e=qx*qx+qy*qy:=by unfold zak;rw[←eqx,←eqy]
 have rr:zak e c=(px-qx)*(px-qx)+(py-qy)*(py-qy):=by
  unfold zak
  have e1:e.x-c.x=px-qx:=by omega
  have e2:e.y-c.y=py-qy:=by omega
  rw[e1,e2]
 rw[s]at h
 rw[d,rr]
 clear d s rr epx epy eqx eqy
 have hs:0<=qx*qx+qy*qy:=by have:=zgp qx;have:=zgp qy;omega
 have cs:∀u v:Int,(u*qx+v*qy)*(u*qx+v*qy)<=(u*u+v*v)*(r*r):=λu v=>by
  have a:(u*u+v*v)*(qx*qx+qy*qy)=(u*qx+v*qy)*(u*qx+v*qy)+(u*qy-v*qx)*(u*qy-v*qx):=by grind
  have b:=zgp (u*qy-v*qx)
  have n:0<=u*u+v*v:=by have:=zgp u;have:=zgp v;omega
  have m:=Int.mul_le_mul_of_nonneg_left h n
  omega
 constructor
 ·unfold outI;rw[decide_eq_true_eq]
  by_cases k:(px-qx)*(px-qx)+(py-qy)*(py-qy)-r*r-(px*px+py*py)<=0
  ·exact .inl k
  ·refine .inr ?_
   have c1:=cs px py
   have l:(px-qx)*(px-qx)+(py-qy)*(py-qy)-r*r-(px*px+py*py)<=-2*(px*qx+py*qy):=by
    have:(px-qx)*(px-qx)+(py-qy)*(py-qy)-(px*px+py*py) = -2*(px*qx+py*qy)+(qx*qx+qy*qy):=by grind
    omega
   have q:=zzv (x:=(px-qx)*(px-qx)+(py-qy)*(py-qy)-r*r-(px*px+py*py)) (y:=-2*(px*qx+py*qy)) (by omega) l
   have e1 : -2*(px*qx+py*qy)*(-2*(px*qx+py*qy))=4*((px*qx+py*qy)*(px*qx+py*qy)):=by grind
   have e2:4*(px*px+py*py)*(r*r)=4*((px*px+py*py)*(r*r)):=by grind
   omega
 ·unfold insI;rw[decide_eq_true_eq]
  by_cases k:px*px+py*py-((px-qx)*(px-qx)+(py-qy)*(py-qy))-r*r<=0
  ·exact .inl k
  ·refine .inr ?_
   have c1:=cs (px-qx) (py-qy)
   have l:px*px+py*py-((px-qx)*(px-qx)+(py-qy)*(py-qy))-r*r<=2*((px-qx)*qx+(py-qy)*qy):=by
    have:px*px+py*py-((px-qx)*(px-qx)+(py-qy)*(py-qy))=2*((px-qx)*qx+(py-qy)*qy)+(qx*qx+qy*qy):=by grind
    omega
   have q:=zzv (x:=px*px+py*py-((px-qx)*(px-qx)+(py-qy)*(py-qy))-r*r) (y:=2*((px-qx)*qx+(py-qy)*qy)) (by omega) l
   have e1:2*((px-qx)*qx+(py-qy)*qy)*(2*((px-qx)*qx+(py-qy)*qy))=4*(((px-qx)*qx+(py-qy)*qy)*((px-qx)*qx+(py-qy)*qy)):=by grind
   have e2:4*((px-qx)*(px-qx)+(py-qy)*(py-qy))*(r*r)=4*(((px-qx)*(px-qx)+(py-qy)*(py-qy))*(r*r)):=by grind
   omega
theorem zt4{d rr r R:Int}(hR:0<=R)(hr:0<=r)(h:rr<=R*R)(h0:0<=rr)(k:insI d rr r=true):d<=(R+r)*(R+r):=by
 unfold insI at k
 rw[decide_eq_true_eq]at k
 have e:(R+r)*(R+r)=R*R+2*(R*r)+r*r:=by grind
 have n1:0<=R*r:=Int.mul_nonneg hR hr
 rcases k with k|k
 ·omega
 ·have m:4*rr*(r*r)<=(2*(R*r))*(2*(R*r)):=by
   have e2:(2*(R*r))*(2*(R*r))=4*(R*R)*(r*r):=by grind
   rw[e2]
   exact Int.mul_le_mul_of_nonneg_right (by omega) (Int.mul_nonneg hr hr)
  have:=(znb (e:=d-rr-r*r) (s:=2*(R*r)) (by omega) (by omega)).2
  omega
theorem ring_d{p c a e:P2}{r R:Int}(ok:okI c a e)(hR:0<=R)(hr:0<=r)(h:zak a c<=R*R)(k:ygb p c a e r=true):zak p c<=(R+r)*(R+r):=by
 have h0:=zff a c
 unfold ygb at k
 rw[Bool.or_eq_true,Bool.or_eq_true,decide_eq_true_eq,decide_eq_true_eq,Bool.and_eq_true]at k
 rcases k with(k|k)|k
 ·exact zt4 hR hr h h0 (zsc k).2
 ·exact zt4 hR hr h h0 (by rw[ok.2];exact(zsc k).2)
 ·exact zt4 hR hr h h0 k.2
theorem ygw{b:B4}{q c:P2}(hx:b.x0<=b.x1)(hy:b.y0<=b.y1)(h:hasI b q):zc6 b c<=zak q c:=by
 obtain⟨h1,h2,h3,h4⟩:=h
 have g:∀{v lo hi w:Int},lo<=w->w<=hi->gapI v lo hi*gapI v lo hi<=(w-v)*(w-v):=λ{v lo hi w} a b=>by
  unfold gapI
  split
  ·exact Int.mul_le_mul (by omega) (by omega) (by omega) (by omega)
  ·split
   ·have e:(w-v)*(w-v)=(v-w)*(v-w):=by grind
    rw[e]
    exact Int.mul_le_mul (by omega) (by omega) (by omega) (by omega)
   ·have:=zgp (w-v);omega
 unfold zc6 zak
 have:=g (v:=c.x) h1 h2
 have:=g (v:=c.y) h3 h4
 omega
theorem yga{b:B4}{c a e:P2}{r R:Int}(hx:b.x0<=b.x1)(hy:b.y0<=b.y1)(ok:okI c a e)(hR:0<=R)(hr:0<=r)(h:zak a c<=R*R)(ho:Off (aroI c c (R+r)) b):zjt b c a e r=0:=by
 have h0:=zff a c
 have far:=zqa (q:=c) hx hy (show 0<=R+r by omega) ho (.inl rfl)
 have hm:=zic (b:=b) (p:=c) hx hy
 have i1:insI (zc6 b c) (zak a c) r=false:=by
  cases k:insI (zc6 b c) (zak a c) r with
  |false=>rfl
  |true=>have:=zt4 hR hr h h0 k;omega
 have i2:insI (zeb b c) (zak a c) r=false:=by
  cases k:insI (zeb b c) (zak a c) r with
  |false=>rfl
  |true=>have:=zt4 hR hr h h0 k;omega
 have n:∀q,zak q c=zak a c->r*r<zc6 b q:=λq hq=>by
  rcases Int.lt_or_le (r*r) (zc6 b q)with k|k
  ·exact k
  ·rw[zpg hx hy]at k
   have hb:hasI b (zoh b q):=by
    unfold zoh hasI
    dsimp only
    omega
   have h1:=zt4 hR hr h h0 (hq▸(zsc k).2)
   have h2:=ygw (c:=c) hx hy hb
   omega
 have n1:=n a rfl
 have n2:=n e ok.2.symm
 have m1:=zic (b:=b) (p:=a) hx hy
 have m2:=zic (b:=b) (p:=e) hx hy
 unfold zjt
 rw[if_neg (by omega),i1,i2,if_neg (by simp),if_neg (by omega),if_pos (by simp)]
def InC(U:B4)(l:Ctr):Prop:=∀i,i<l.n->∀k,k<l.m i->hasI U (l.p i k)
theorem ygp{l:Ctr}{p:P2}(h:∀i,i<l.n->∀k,k<l.m i->zat p (l.p i k) (l.p i (nxt (l.m i) k))=false):oddI p l=false:=by
 unfold oddI
 rw[zcw (g:=λ_=>false) λi hi=>?_,zia]
 rw[zcw (f:=zg6 l (zat p) i) (g:=λ_=>false) λk hk=>h i hi k hk,zia]
theorem yaj{l:Ctr}{U:B4}{p:P2}(h:InC U l)(hp:p.y<U.y0\/U.y1<=p.y):oddI p l=false:=ygp λi hi k hk=>by
 have a:=h i hi k hk
 have e:=h i hi _ (zxs hk)
 unfold zat hasI at *
 rcases hp with hp|hp
 ·rw[decide_eq_true (show(l.p i k).y>p.y by omega),decide_eq_true (show(l.p i (nxt (l.m i) k)).y>p.y by omega)];rfl
 ·rw[decide_eq_false (show ¬(l.p i k).y>p.y by omega),decide_eq_false (show ¬(l.p i (nxt (l.m i) k)).y>p.y by omega)];rfl
theorem ymg{b U:B4}{a e:P2}(h:Off U b)(ha:hasI U a)(he:hasI U e):zca b a e=false:=by
 unfold zca sepI
 have:decide (max a.x e.x<b.x0)=true\/decide (min a.x e.x>b.x1)=true\/decide (max a.y e.y<b.y0)=true\/decide (min a.y e.y>b.y1)=true:=by
  simp only[decide_eq_true_eq]
  unfold Off hasI at *
  omega
 rcases this with h|h|h|h<;>rw[h]<;>simp
theorem zqs{b U:B4}{l:Ctr}(h:Off U b)(hl:InC U l):zco b l=false:=by
 rw[Bool.eq_false_iff]
 intro hq
 obtain⟨i,hi,hq⟩:=zhr.1 hq
 obtain⟨k,hk,hq⟩:=zhr.1 hq
 unfold zg6 at hq
 rw[ymg h (hl i hi k hk) (hl i hi _ (zxs hk))]at hq
 cases hq
theorem yam{l:Ctr}{U:B4}{p:P2}(h:InC U l)(hp:¬hasI U p):oddI p l=false:=by
 by_cases hy:p.y<U.y0\/U.y1<=p.y
 ·exact yaj h hy
 ·have hb:Off U ⟨p.x,p.y,p.x,U.y1⟩:=by
   unfold hasI at hp
   unfold Off
   dsimp only
   omega
  have e:=z0g (p:=p) (q:=⟨p.x,U.y1⟩) (zqs hb h) ⟨Int.le_refl _,Int.le_refl _,Int.le_refl _,by show p.y<=U.y1;omega⟩ ⟨Int.le_refl _,Int.le_refl _,by show p.y<=U.y1;omega,Int.le_refl _⟩
  rw[e]
  exact yaj h (.inr (Int.le_refl _))
theorem yf1{U:B4}{p:P2}(hp:¬hasI U p):Off U (zh7 p):=by
 unfold Off zh7 hasI at *
 dsimp only
 omega
theorem z2u{l:Ctr}{U:B4}{p:P2}(hl:PRC l)(hp:PR p)(h:InC U l)(k:zp7 p l=true):hasI U p:=by
 by_cases hn:hasI U p
 ·exact hn
 ·unfold zp7 at k
  rw[zqt (b:=ymb p) ⟨hp.x,hp.y,hp.x,hp.y⟩ (Int.le_refl _) (Int.le_refl _) hl,z0h hp hl,yam h hn,show zco (ymb p) l=false from zqs (yf1 hn) h]at k
  cases k
theorem z2t{l:Ctr}{U b:B4}(hl:PRC l)(hb:BR b)(hx:b.x0<=b.x1)(hy:b.y0<=b.y1)(h:InC U l)(ho:Off U b):zch b l=0:=by
 have hC:hasI b ⟨b.x0,b.y0⟩:=⟨Int.le_refl _,hx,Int.le_refl _,hy⟩
 unfold zch
 rw[zqt hb hx hy hl,z0h (ydh hb hC) hl,zqs ho h,yam h (z0f ho hC),(zit b ⟨b.x0,b.y0⟩).2 hC]
 rfl
theorem ymt{l:Ctr}{b:B4}(hl:PRC l)(hb:BR b)(hx:b.x0<=b.x1)(hy:b.y0<=b.y1)(h:∀i,i<l.n->l.m i=0):zch b l=0:=
 z2t (U:=⟨b.x1+1,b.y0,b.x1+1,b.y1⟩) hl hb hx hy (λi hi k hk=>by rw[h i hi]at hk;omega) (.inr (.inl (by dsimp only;omega)))
structure In4(a U:B4):Prop where
 x0:U.x0<=a.x0
 y0:U.y0<=a.y0
 x1:a.x1<=U.x1
 y1:a.y1<=U.y1
theorem In4.has{a U:B4}{p:P2}(h:In4 a U)(k:hasI a p):hasI U p:=by
 obtain⟨h1,h2,h3,h4⟩:=h
 unfold hasI at *
 omega
theorem tk_in(f:Bool)(a b:B4):In4 b (tkF f a b)/\(f=true->In4 a (tkF f a b)):=by
 have e1:=zcm a.x0 b.x0
 have e2:=zcm a.y0 b.y0
 have e3:=zcn a.x1 b.x1
 have e4:=zcn a.y1 b.y1
 cases f with
 |false=>exact⟨⟨Int.le_refl _,Int.le_refl _,Int.le_refl _,Int.le_refl _⟩,λh=>by cases h⟩
 |true=>exact⟨⟨e1.2.1,e2.2.1,e3.2.1,e4.2.1⟩,λ_=>⟨e1.1,e2.1,e3.1,e4.1⟩⟩
theorem z7q{f:Bool}{a b:B4}(hb:Fits b)(ha:f=true->Fits a):Fits (tkF f a b):=by
 cases f with
 |false=>exact⟨hb.x0,hb.x,hb.x1,hb.y0,hb.y,hb.y1⟩
 |true=>
  obtain⟨a1,a2,a3,a4,a5,a6⟩:=ha rfl
  obtain⟨b1,b2,b3,b4,b5,b6⟩:=hb
  have e1:=zcm a.x0 b.x0
  have e2:=zcm a.y0 b.y0
  have e3:=zcn a.x1 b.x1
  have e4:=zcn a.y1 b.y1
  unfold tkF
  constructor<;>simp only[cond_true]<;>omega
def Cov(q:Bool×B4)(b:B4):Prop:=q.1=true/\In4 b q.2
def Gd(q:Bool×B4):Prop:=q.1=true->Fits q.2
theorem In4.trans{a b c:B4}(h:In4 a b)(k:In4 b c):In4 a c:=⟨Int.le_trans k.x0 h.x0,Int.le_trans k.y0 h.y0,Int.le_trans h.x1 k.x1,Int.le_trans h.y1 k.y1⟩
theorem zse{q:Bool×B4}(b:B4):Cov (true,tkF q.1 q.2 b) b/\∀c,Cov q c->Cov (true,tkF q.1 q.2 b) c:=
 ⟨⟨rfl,(tk_in q.1 q.2 b).1⟩,λc h=>⟨rfl,h.2.trans ((tk_in q.1 q.2 b).2 h.1)⟩⟩
theorem z58{g:Nat->Bool×B4->Bool×B4}{n:Nat}(hg:∀i q c,i<n->Cov q c->Cov (g i q) c){a:Bool×B4}{c:B4}(h:Cov a c):Cov (zax g a n) c:=by
 induction n with
 |zero=>exact h
 |succ n ih=>exact hg n _ c (Nat.lt_succ_self n) (ih λi q c hi=>hg i q c (by omega))
theorem zns{g:Nat->Bool×B4->Bool×B4}{n:Nat}(hg:∀i q c,i<n->Cov q c->Cov (g i q) c){i:Nat}(hi:i<n){b:B4}(h:∀q,Cov (g i q) b)(a:Bool×B4):Cov (zax g a n) b:=by
 induction n with
 |zero=>omega
 |succ n ih=>
  show Cov (g n (zax g a n)) b
  by_cases e:i=n
  ·subst e;exact h _
  ·exact hg n _ b (Nat.lt_succ_self n) (ih (λi q c hi=>hg i q c (by omega)) (by omega))
theorem zvp{g:Nat->Bool×B4->Bool×B4}{n:Nat}(hg:∀i q,i<n->Gd q->Gd (g i q)){a:Bool×B4}(h:Gd a):Gd (zax g a n):=by
 induction n with
 |zero=>exact h
 |succ n ih=>exact hg n _ (Nat.lt_succ_self n) (ih λi q hi=>hg i q (by omega))
theorem yf2{p:P2}(h:PB FF p):hasI (zct p p 0) p:=(zsn h h (by omega) (by omega) h).2 (zqe (by omega) (by unfold zak;grind))
theorem PB_F{B:Int}(hB:B<=FF){p:P2}(h:PB B p):PB FF p:=by
 obtain⟨⟨h1,h2⟩,h3,h4⟩:=h
 unfold FF at *
 exact⟨⟨by omega,by omega⟩,by omega,by omega⟩
theorem PB_R{p:P2}(h:PB FF p):PR p:=zrl (zso (Int.le_refl _) h)
theorem znw{a c:P2}(ha:PB FF a)(hc:PB FF c):zak a c<=2305843009213693952:=by
 obtain⟨⟨a1,a2⟩,a3,a4⟩:=ha
 obtain⟨⟨c1,c2⟩,c3,c4⟩:=hc
 unfold FF at *
 have g:∀x:Int,-1073741824<=x->x<=1073741824->x*x<=1152921504606846976:=λx h1 h2=>by
  rcases Int.le_total 0 x with h|h
  ·exact Int.mul_le_mul h2 h2 h (by decide)
  ·have:=Int.mul_le_mul (show -x<=1073741824 by omega) (show -x<=1073741824 by omega) (by omega) (by decide)
   have e : -x * -x=x*x:=by grind
   omega
 have:=g (a.x-c.x) (by omega) (by omega)
 have:=g (a.y-c.y) (by omega) (by omega)
 unfold zak
 omega
theorem yaw{b:B4}{c:P2}(hb:Fits b)(hc:PB FF c):zeb b c<=4000000000000000000:=by
 rw[z0k hb.x hb.y]
 obtain⟨b1,b2,b3,b4,b5,b6⟩:=hb
 have g:∀q:P2,PB FF q->zak q c<=2305843009213693952:=λq hq=>znw hq hc
 have k1:=g ⟨b.x0,b.y0⟩ ⟨⟨by unfold FF;dsimp only;omega,by unfold FF;dsimp only;omega⟩,by unfold FF;dsimp only;omega,by unfold FF;dsimp only;omega⟩
 have k2:=g ⟨b.x1,b.y0⟩ ⟨⟨by unfold FF;dsimp only;omega,by unfold FF;dsimp only;omega⟩,by unfold FF;dsimp only;omega,by unfold FF;dsimp only;omega⟩
 have k3:=g ⟨b.x0,b.y1⟩ ⟨⟨by unfold FF;dsimp only;omega,by unfold FF;dsimp only;omega⟩,by unfold FF;dsimp only;omega,by unfold FF;dsimp only;omega⟩
 have k4:=g ⟨b.x1,b.y1⟩ ⟨⟨by unfold FF;dsimp only;omega,by unfold FF;dsimp only;omega⟩,by unfold FF;dsimp only;omega,by unfold FF;dsimp only;omega⟩
 omega
theorem yc1{s:Sh}(ha:PB FF s.a)(hc:PB FF s.c)(hr:1<=s.r/\s.r<=FF):bdR s=s.r+rupF (zak s.a s.c):=by
 have hd:=znw ha hc
 have q:=zzy (v:=zak s.a s.c) (by omega)
 obtain⟨⟨a1,a2⟩,a3,a4⟩:=ha
 obtain⟨⟨c1,c2⟩,c3,c4⟩:=hc
 unfold FF at *
 unfold bdR
 have s1:=zgp (s.a.x-s.c.x)
 have s2:=zgp (s.a.y-s.c.y)
 have e:(s.a.x-s.c.x)*(s.a.x-s.c.x)+(s.a.y-s.c.y)*(s.a.y-s.c.y)=zak s.a s.c:=rfl
 rw[W_id (x:=s.a.x-s.c.x) (by omega) (by omega),W_id (x:=s.a.y-s.c.y) (by omega) (by omega),W_id (x:=(s.a.x-s.c.x)*(s.a.x-s.c.x)) (by omega) (by omega),W_id (x:=(s.a.y-s.c.y)*(s.a.y-s.c.y)) (by omega) (by omega),e,W_id (x:=zak s.a s.c) (by omega) (by omega)]
 exact W_id (by omega) (by omega)
theorem zyc{g add:Nat->Bool}:∀{n:Nat},zax (hasN g add) false n=true->∃i,i<n/\g i=true/\add i=true
 |0,h=>by cases h
 |n+1,h=>by
  have h':hasN g add n (zax (hasN g add) false n)=true:=h
  unfold hasN at h'
  cases hg:g n with
  |true=>rw[hg]at h';exact⟨n,Nat.lt_succ_self n,hg,h'⟩
  |false=>
   rw[hg]at h'
   obtain⟨i,hi,h1,h2⟩:=zyc (n:=n) h'
   exact⟨i,by omega,h1,h2⟩
theorem yhy{l:Ctr}{i:Nat}(q:Bool×B4)(c:B4)(h:Cov q c):Cov (bdO l i q) c:=z58 (g:=bdI l i) (λk q c _ h=>(zse _).2 c h) h
theorem z05{l:Ctr}{P:P2->Prop}(hP:∀p,P p->PB FF p)(h:FinC P l):InC (zax (bdO l) bdQ l.n).2 l/\((∃i k,i<l.n/\k<l.m i)->(zax (bdO l) bdQ l.n).1=true):=by
 have key:∀i k,i<l.n->k<l.m i->Cov (zax (bdO l) bdQ l.n) (zct (l.p i k) (l.p i k) 0):=λi k hi hk=>
  zns (g:=bdO l) (λi q c _ h=>yhy q c h) hi (λq=>zns (g:=bdI l i) (λk q c _ h=>(zse _).2 c h) hk (λq=>(zse _).1) q) bdQ
 refine⟨λi hi k hk=>(key i k hi hk).2.has (yf2 (hP _ ((h.2 i hi).2 k hk))),λ⟨i,k,hi,hk⟩=>(key i k hi hk).1⟩
theorem ctr_gd{l:Ctr}{P:P2->Prop}(hP:∀p,P p->PB FF p)(h:FinC P l):Gd (zax (bdO l) bdQ l.n):=
 zvp (g:=bdO l) (λi q hi hq=>zvp (g:=bdI l i) (λk q hk hq _=>z7q (zn2 (hP _ ((h.2 i hi).2 k hk)) (hP _ ((h.2 i hi).2 k hk)) (by omega) (by omega)) hq) hq) (λh=>by cases h)
theorem yks{l:Ctr}{P:P2->Prop}(hP:∀p,P p->PB FF p)(h:FinC P l)(k:(zax (bdO l) bdQ l.n).1=false):∀i,i<l.n->l.m i=0:=λi hi=>by
 rcases Nat.eq_zero_or_pos (l.m i)with z|z
 ·exact z
 ·rw[(z05 hP h).2 ⟨i,0,hi,z⟩]at k;cases k
theorem z3v{B:Int}(hB:B<=FF):∀(s:Shp) (d:Int),Fine (PB B) s d->(∀p,PB FF p->hasF s p=true->(bndF s).2=true/\hasI (bndF s).1 p)/\((bndF s).2=true->Fits (bndF s).1):=by
 intro s
 induction s with
 |nil=>intro d h;exact h.elim
 |mk k a b c r l n add sub ih=>
  intro d h
  rcases h with⟨rfl,rfl,rfl,rfl,rfl,ha,hr⟩|⟨rfl,rfl,rfl,rfl,ha,hb,hr⟩|⟨rfl,rfl,rfl,rfl,ha,hb,hr,hab⟩|⟨rfl,rfl,rfl,ha,hb,hc,hr,ok⟩|⟨rfl,rfl,rfl,rfl,rfl,rfl,hl⟩|⟨rfl,rfl,rfl,rfl,rfl,rfl,hd,hn,hs⟩
  ·have ha:=PB_F hB ha
   have hr:=zj5 hr
   refine⟨λp hp h=>⟨rfl,?_⟩,λ_=>zn2 ha ha (by omega) (by omega)⟩
   have h':zo0 p a r=true:=h
   rw[zoz (PB_R hp) (PB_R ha) hr.1 (by omega),decide_eq_true_eq]at h'
   exact(zsn ha ha (by omega) (by omega) hp).2 (zqe (by omega) h')
  ·have ha:=PB_F hB ha
   have hb:=PB_F hB hb
   have hr:=zj5 hr
   refine⟨λp hp h=>⟨rfl,?_⟩,λ_=>zn2 ha hb (by omega) (by omega)⟩
   have h':zjc p a b r=true:=h
   rw[zop (PB_R hp) (PB_R ha) (PB_R hb) hr.1 (by omega)]at h'
   exact(zsn ha hb (by omega) (by omega) hp).2 (z0d (by omega) (zru.1 h'))
  ·have ha:=PB_F hB ha
   have hb:=PB_F hB hb
   have hr:=zj5 hr
   refine⟨λp hp h=>⟨rfl,?_⟩,λ_=>zn2 ha hb (by omega) (by omega)⟩
   have h':zy3 p a b r=true:=h
   rw[zy2 (PB_R hp) (PB_R ha) (PB_R hb) (by omega)]at h'
   exact(zsn ha hb (by omega) (by omega) hp).2 (z0d (by omega) (zru.1 (yij h')))
  ·have ha:=PB_F hB ha
   have hb:=PB_F hB hb
   have hc:=PB_F hB hc
   have hr:=zj5 hr
   have hd:=znw ha hc
   have q:=zzy (v:=zak a c) (by omega)
   have e:(bndF (.mk 5 a b c r zeC 0 add sub)).1=zct c c (r+rupF (zak a c)):=by
    show zct c c (bdR ⟨5,a,b,c,r,zeC,0,noF⟩)=_
    rw[yc1 (s:=⟨5,a,b,c,r,zeC,0,noF⟩) ha hc hr]
   rw[e]
   refine⟨λp hp h=>⟨rfl,?_⟩,λ_=>zn2 hc hc (by omega) (by omega)⟩
   have h':zux p c a b r=true:=h
   rw[z45 (PB_R hp) (PB_R hc) (PB_R ha) (PB_R hb) ok hr.1 (by omega) (by have:=znw hp hc;omega) (by omega)]at h'
   have:=ring_d ok q.1 (by omega) q.2.2 h'
   rw[Int.add_comm]at this
   exact(zsn hc hc (by omega) (by omega) hp).2 (zqe (by omega) this)
  ·have hP:∀p,PB B p->PB FF p:=λp h=>PB_F hB h
   have cv:=z05 hP hl
   refine⟨λp hp h=>?_,λh=>ctr_gd hP hl h⟩
   have h':zp7 p l=true:=h
   have hC:PRC l:=⟨λi hi k hk=>PB_R (hP _ ((hl.2 i hi).2 k hk))⟩
   refine⟨?_,z2u hC (PB_R hp) cv.1 h'⟩
   show(zax (bdO l) bdQ l.n).1=true
   cases k:(zax (bdO l) bdQ l.n).1 with
   |true=>rfl
   |false=>
    have z:=yks hP hl k
    have:=z2u (U:=⟨p.x+1,p.y,p.x,p.y⟩) hC (PB_R hp) (λi hi k hk=>by rw[z i hi]at hk;omega) h'
    unfold hasI at this
    dsimp only at this
    omega
  ·have keep:∀(i:Nat) (q:Bool×B4) (c:B4),i<n->Cov q c->Cov (bif !(add i)then q else bif (bndF (sub i)).2 then(true,tkF q.1 q.2 (bndF (sub i)).1)else q) c:=λi q c _ h=>by
    cases add i with
    |false=>exact h
    |true=>
     cases (bndF (sub i)).2 with
     |false=>exact h
     |true=>exact(zse _).2 c h
   refine⟨λp hp h=>?_,λh=>?_⟩
   ·have h':(runN (λt (_:Bool)=>bif hasF (sub (n-1-t)) p then(false,add (n-1-t))else(true,false)) false n).2=true:=h
    rw[yhl (λi=>hasF (sub i) p) add n]at h'
    obtain⟨i,hi,h1,h2⟩:=zyc h'
    have hi':=(ih i (d+1) (hs i hi)).1 p hp h1
    have cv:=zns (g:=λi (q:Bool×B4)=>bif !(add i)then q else bif (bndF (sub i)).2 then(true,tkF q.1 q.2 (bndF (sub i)).1)else q) keep hi (b:=(bndF (sub i)).1) (λq=>by
     rw[h2,hi'.1]
     exact(zse _).1) bdQ
    exact⟨cv.1,cv.2.has hi'.2⟩
   ·refine zvp (g:=λi (q:Bool×B4)=>bif !(add i)then q else bif (bndF (sub i)).2 then(true,tkF q.1 q.2 (bndF (sub i)).1)else q) (n:=n) (a:=bdQ) (λi q hi hq=>?_) (λh=>by cases h) h
    cases add i with
    |false=>exact hq
    |true=>
     cases hk:(bndF (sub i)).2 with
     |false=>exact hq
     |true=>exact λ_=>z7q ((ih i (d+1) (hs i hi)).2 hk) hq
def kindS:Shp->Int
 |.nil=>0
 |.mk k _ _ _ _ _ _ _ _=>k
theorem ypg{b:B4}(h:Fits b):BR b:=by
 obtain⟨b1,b2,b3,b4,b5,b6⟩:=h
 exact⟨⟨by omega,by omega⟩,⟨by omega,by omega⟩,⟨by omega,by omega⟩,⟨by omega,by omega⟩⟩
theorem z3u{B:Int}(hB:B<=FF){b:B4}(hb:Fits b):∀(s:Shp) (d:Int),Fine (PB B) s d->kindS s≠4->kindS s≠6->((bndF s).2=true->Off (bndF s).1 b)->zf7 s b=0:=by
 intro s d h h4 h6 ho
 cases s with
 |nil=>exact h.elim
 |mk k a b' c r l n add sub=>
  have R:=ypg hb
  rcases h with⟨rfl,rfl,rfl,rfl,rfl,ha,hr⟩|⟨rfl,rfl,rfl,rfl,ha,hb',hr⟩|⟨rfl,rfl,rfl,rfl,ha,hb',hr,hab⟩|⟨rfl,rfl,rfl,ha,hb',hc,hr,ok⟩|⟨rfl,rfl,rfl,rfl,rfl,rfl,hl⟩|⟨rfl,rfl,rfl,rfl,rfl,rfl,hd,hn,hs⟩
  ·have ha:=PB_F hB ha
   have hr:=zj5 hr
   have o:=z1i ha ha (by omega) (by omega) hb (ho rfl)
   show zcr b a r=0
   rw[zf6 R (PB_R ha) hb.x hb.y hr.1 (by omega),if_pos (zqa hb.x hb.y (by omega) o (.inl rfl))]
  ·have ha:=PB_F hB ha
   have hb':=PB_F hB hb'
   have hr:=zj5 hr
   have o:=z1i ha hb' (by omega) (by omega) hb (ho rfl)
   show zd2 b a b' r=0
   rw[zkm R (PB_R ha) (PB_R hb') hb.x hb.y hr.1 (by omega)]
   exact yhb hb.x hb.y (by omega) o
  ·exact absurd rfl h4
  ·have ha:=PB_F hB ha
   have hb':=PB_F hB hb'
   have hc:=PB_F hB hc
   have hr:=zj5 hr
   have hd:=znw ha hc
   have q:=zzy (v:=zak a c) (by omega)
   have e:(bndF (.mk 5 a b' c r zeC 0 add sub)).1=zct c c (r+rupF (zak a c)):=by
    show zct c c (bdR ⟨5,a,b',c,r,zeC,0,noF⟩)=_
    rw[yc1 (s:=⟨5,a,b',c,r,zeC,0,noF⟩) ha hc hr]
   have ho':=ho rfl
   rw[e]at ho'
   have o:=z1i hc hc (by omega) (by omega) hb ho'
   rw[Int.add_comm]at o
   show zda b c a b' r=0
   rw[zhl R (PB_R hc) (PB_R ha) (PB_R hb') ok hb.x hb.y hr.1 (by omega) (yaw hb hc) (by omega)]
   exact yga hb.x hb.y ok q.1 (by omega) q.2.2 o
  ·have hP:∀p,PB B p->PB FF p:=λp h=>PB_F hB h
   have cv:=z05 hP hl
   have hC:PRC l:=⟨λi hi k hk=>PB_R (hP _ ((hl.2 i hi).2 k hk))⟩
   show zch b l=0
   cases k:(zax (bdO l) bdQ l.n).1 with
   |true=>exact z2t hC R hb.x hb.y cv.1 (ho k)
   |false=>exact ymt hC R hb.x hb.y (yks hP hl k)
  ·exact absurd rfl h6
structure Sb(q b:B4):Prop where
 fa:b.x0<=q.x0
 x:q.x0<=q.x1
 fb:q.x1<=b.x1
 fc:b.y0<=q.y0
 y:q.y0<=q.y1
 fd:q.y1<=b.y1
theorem Sb.near{q b:B4}(h:Sb q b)(p:P2):zc6 b p<=zc6 q p:=by
 have:=h.fa;have:=h.fb;have:=h.fc;have:=h.fd;have:=h.x;have:=h.y
 have gx:0<=gapI p.x b.x0 b.x1/\gapI p.x b.x0 b.x1<=gapI p.x q.x0 q.x1:=by unfold gapI;repeat' split<;>omega
 have gy:0<=gapI p.y b.y0 b.y1/\gapI p.y b.y0 b.y1<=gapI p.y q.y0 q.y1:=by unfold gapI;repeat' split<;>omega
 have:=Int.mul_le_mul gx.2 gx.2 gx.1 (by omega)
 have:=Int.mul_le_mul gy.2 gy.2 gy.1 (by omega)
 unfold zc6
 omega
structure Ref(k j:Int):Prop where
 k0:0<=k
 k2:k<=2
 j0:0<=j
 j2:j<=2
 e:k≠1->j=k
end Go.Proofs.YtmekpbopoknigaaGreatDoor

import Derived.Test.YtmekpbopoknigaaGreatDoorQL
namespace Go.Proofs.YtmekpbopoknigaaGreatDoor
open Go Go.RowKit Sym
set_option maxRecDepth 100000
def crossesF(p a e:P2):Bool:=bif (decide (a.y>p.y)==decide (e.y>p.y))then false else bif decide (e.y>a.y)then decide (cross a e p>0)else decide (cross a e p<0)
theorem crosses_ok(p a e:P2):CallOk Tryz.prog 203 [pt p,pt a,pt e] (vb (crossesF p a e)):=
 fnOk (fuel:=16) (tbOf_ok tbA_ok) mo Tryz.func203 (by kernel_rfl) (by kernel_rfl) (by kernel_rfl) (by kernel_rfl)
def tbP:List Entry:=(203,en3 dP dP dP (λp a e=>vb (crossesF p a e)))::tbA
theorem tbP_ok:∀e∈tbP,EntryOk Tryz.prog e:=List.forall_mem_cons.2 ⟨en3_ok dP_eq dP_eq dP_eq crosses_ok,tbA_ok⟩
def dtyP(t:TypeId):Bool:=Nat.beq t 77||Nat.beq t 34
def noD(_:Nat):Bool:=false
def tabP:Dyn.Tabs:=Dyn.tabs tbP [] noD dtyP
theorem tabP_ok:Dyn.TabsOk Tryz.prog tabP:=Dyn.tabs_ok tbP_ok (λ_ h=>by cases h)
def nxt(m k:Nat):Nat:=(((k:Int)+1).tmod (m:Int)).toNat
def edgeC(l:Ctr)(f:P2->P2->Bool)(i k:Nat):Bool:=f (l.p i k) (l.p i (nxt (l.m i) k))
def oddF(p:P2)(l:Ctr):Bool:=parN (λi=>parN (edgeC l (crossesF p) i) (l.m i)) l.n
def oddH(p:P2)(l:Ctr):List (Option Dyn.HE):=[some (.deep [cCtr l]),some (.cells 26 [vi p.x,vi p.y])]
def oddS(p:P2)(l:Ctr)(i:Int)(q:Bool):Dyn.St:=mkS 39 [(0,sV (pt p)),(1,sH 0 0 l.n),(2,sL 1),(4,.k (vb false)),(5,sB q),(10,sH 0 0 l.n),(11,sI l.n),(12,sI i)] (oddH p l)
def oddT(p:P2)(l:Ctr)(i j:Int)(q:Bool):Dyn.St:=mkS 39 [(0,sV (pt p)),(1,sH 0 0 l.n),(2,sL 1),(4,.k (vb false)),(5,sB q),(7,sH 2 0 (l.m i.toNat)),(10,sH 0 0 l.n),(11,sI l.n),(12,sI i),(16,sH 2 0 (l.m i.toNat)),(17,sI (l.m i.toNat)),(18,sI j)] (oddH p l++[some (.deep [cRow (l.m i.toNat) (l.p i.toNat)])])
def oddK0:List Nat:=[0,1,2,4,5,10,11,12]
def oddK1:List Nat:=[0,1,2,4,5,7,10,11,12,16,17,18]
def oddLp(p:P2)(l:Ctr):Dyn.Lp:=λid s=>match id with
 |0=>some (.side [keepS 39 [0,1] oddK0 4128 s=oddS p l 0 false] (.leaf .normal (oddS p l l.n (oddF p l))))
 |2=>
  let i:=intD (s.slots.getD 12 .junk)
  let q:=boolD (s.slots.getD 5 .junk)
  some (.side [keepS 39 [0,1,3] oddK1 262144 s=oddT p l i 0 q,0<=i/\i<l.n] (.leaf .normal (oddT p l i (l.m i.toNat) (xor q (parN (edgeC l (crossesF p) i.toNat) (l.m i.toNat))))))
 |_=>none
def oddB1(p:P2)(l:Ctr)(i:Int)(k:Nat)(q:Bool):Dyn.Out:=
 let m:Int:=l.m i.toNat
 let r:Int:=(W ((k:Int)+1)).tmod m
 .ite (decide ((k:Int)<m)) (.side [0<=(k:Int)/\(k:Int)<m] (.side [m≠0,0<=r/\r<m]
  (.leaf .normal (oddT p l i (W ((k:Int)+1)) (bif crossesF p (l.p i.toNat k) (l.p i.toNat r.toNat)then !q else q))))) (.leaf (.exit 2) (oddT p l i k q))
def oddB0(p:P2)(l:Ctr)(k:Nat)(q:Bool):Dyn.Out:=
 .ite (decide ((k:Int)<l.n)) (.side [0<=(k:Int)/\(k:Int)<l.n] (.side [oddT p l k 0 q=oddT p l k 0 q,0<=(k:Int)/\(k:Int)<l.n]
  (.leaf .normal (oddS p l (W ((k:Int)+1)) (xor q (parN (edgeC l (crossesF p) k) (l.m k))))))) (.leaf (.exit 0) (oddS p l k q))
theorem odd_blocks:blocksL (bodyD Tryz.f145.body)=[(0,.loop (unloopD (blkD Tryz.f145.body 0))),(1,blkD Tryz.f145.body 1),(2,.loop (unloopD (blkD Tryz.f145.body 2))),(3,blkD Tryz.f145.body 3)]:=by kernel_rfl
theorem odd_b0:blocksL (unloopD (blkD Tryz.f145.body 0))=[(1,blkD Tryz.f145.body 1),(2,.loop (unloopD (blkD Tryz.f145.body 2))),(3,blkD Tryz.f145.body 3)]:=by kernel_rfl
theorem odd_b2:blocksL (unloopD (blkD Tryz.f145.body 2))=[(3,blkD Tryz.f145.body 3)]:=by kernel_rfl
theorem odd_B1(p:P2)(l:Ctr)(i:Int)(k:Nat)(q:Bool):(Dyn.lexec Tryz.prog tabP (oddLp p l) 3 (unloopD (blkD Tryz.f145.body 2)) .leaf (oddT p l i k q)).rl (λ_=>keepS 39 [0,1,2] oddK1 0)=oddB1 p l i k q:=by kernel_rfl
theorem odd_B0(p:P2)(l:Ctr)(k:Nat)(q:Bool):(Dyn.lexec Tryz.prog tabP (oddLp p l) 3 (unloopD (blkD Tryz.f145.body 0)) .leaf (oddS p l k q)).rl (λ_=>keepS 39 [0,1] oddK0 0)=oddB0 p l k q:=by kernel_rfl
theorem nxt_wrap{k m:Nat}(hk:k<m)(hm:m<=1000000000):W ((k:Int)+1)=((k+1:Nat):Int)/\(m:Int)≠0/\(0<=(W ((k:Int)+1)).tmod m/\(W ((k:Int)+1)).tmod m<m)/\((W ((k:Int)+1)).tmod m).toNat=nxt m k:=by
 have e:W ((k:Int)+1)=(k:Int)+1:=W_id (by omega) (by omega)
 rw[e]
 exact⟨by omega,by omega,⟨Int.tmod_nonneg _ (by omega),Int.tmod_lt_of_pos _ (by omega)⟩,rfl⟩
theorem bif_xor(c q:Bool):(bif c then !q else q)=xor q c:=by cases c<;>cases q<;>rfl
theorem odd_inner(p:P2)(l:Ctr)(hl:CtrB l)(w0:Dyn.Base Tryz.prog)(s:Dyn.St)(o:Dyn.Out)(h:oddLp p l 2 s=some o):Dyn.BlockSound Tryz.prog w0 2 (.loop (unloopD (blkD Tryz.f145.body 2))) s o:=by
 simp only[oddLp,Option.some.injEq]at h
 subst h
 refine side_two λhS hi=>?_
 revert hS hi
 generalize intD (s.slots.getD 12 .junk)=i
 generalize boolD (s.slots.getD 5 .junk)=q
 intro hS hi
 have hm:l.m i.toNat<=1000000000:=hl.2 _ (by omega)
 refine count_block (fuel:=3) tabP_ok mo (lp:=oddLp p l) (by rw[odd_b2];exact lpOk_cons (λs o h=>by cases h) lpOk_nil) (λk (q:Bool)=>oddT p l i k q) (l.m i.toNat) (λk q'=>q'=xor q (parN (edgeC l (crossesF p) i.toNat) k))
  (λ_=>keepS 39 [0,1,2] oddK1 0) (λ_ s=>keepS_ent 39 (by decide) _ 0 s) (λk q=>oddB1 p l i k q) (λe s=>e=.exit 2/\s=oddT p l i (l.m i.toNat) (xor q (parN (edgeC l (crossesF p) i.toNat) (l.m i.toNat)))) (odd_B1 p l i) ?_ ?_
  (a0:=q) (by simp[parN]) (hS▸keepS_ent 39 (by decide) _ _ s) ?_
 ·intro k q' hk hq
  subst hq
  obtain⟨e1,e2,e3,e4⟩:=nxt_wrap hk hm
  unfold oddB1
  dsimp only
  have e5:(bif crossesF p (l.p i.toNat k) (l.p i.toNat ((W ((k:Int)+1)).tmod (l.m i.toNat:Int)).toNat)then !(xor q (parN (edgeC l (crossesF p) i.toNat) k))else xor q (parN (edgeC l (crossesF p) i.toNat) k))=xor q (parN (edgeC l (crossesF p) i.toNat) (k+1)):=by
   rw[bif_xor,e4,Bool.xor_assoc];rfl
  refine⟨λ_=>⟨⟨⟨by omega,by omega⟩,trivial⟩,⟨e2,e3,trivial⟩,⟨_,rfl,?_⟩⟩,λhf=>?_⟩
  ·rw[e5,e1];exact Dyn.Fits.refl _
  ·rw[decide_eq_false_iff_not]at hf;omega
 ·intro q' hq
  subst hq
  unfold oddB1
  dsimp only
  refine⟨λht=>?_,λ_=>⟨rfl,rfl⟩⟩
  rw[decide_eq_true_eq]at ht;omega
 ·intro F hF ho e s hE
  obtain⟨rfl,rfl⟩:=hE
  dsimp only
  rw[if_pos rfl];exact ho
theorem odd_outer(p:P2)(l:Ctr)(hl:CtrB l)(w0:Dyn.Base Tryz.prog)(s:Dyn.St)(o:Dyn.Out)(h:oddLp p l 0 s=some o):Dyn.BlockSound Tryz.prog w0 0 (.loop (unloopD (blkD Tryz.f145.body 0))) s o:=by
 simp only[oddLp,Option.some.injEq]at h
 subst h
 refine side_one λhS=>?_
 have hn:=hl.1
 refine count_block (fuel:=3) tabP_ok mo (lp:=oddLp p l) (by rw[odd_b0];exact lpOk_cons (λs o h=>by cases h) (lpOk_cons (odd_inner p l hl w0) (lpOk_cons (λs o h=>by cases h) lpOk_nil))) (λk (q:Bool)=>oddS p l k q) l.n (λk q'=>q'=parN (λi=>parN (edgeC l (crossesF p) i) (l.m i)) k)
  (λ_=>keepS 39 [0,1] oddK0 0) (λ_ s=>keepS_ent 39 (by decide) _ 0 s) (λk q=>oddB0 p l k q) (λe s=>e=.exit 0/\s=oddS p l l.n (oddF p l)) (odd_B0 p l) ?_ ?_
  (a0:=false) rfl (hS▸keepS_ent 39 (by decide) _ _ s) ?_
 ·intro k q' hk hq
  subst hq
  have e1:W ((k:Int)+1)=((k+1:Nat):Int):=by rw[W_id (by omega) (by omega)];omega
  unfold oddB0
  refine⟨λ_=>⟨⟨⟨by omega,by omega⟩,trivial⟩,⟨rfl,⟨by omega,by omega⟩,trivial⟩,⟨_,rfl,?_⟩⟩,λhf=>?_⟩
  ·rw[e1];exact Dyn.Fits.refl _
  ·rw[decide_eq_false_iff_not]at hf;omega
 ·intro q' hq
  subst hq
  unfold oddB0
  refine⟨λht=>?_,λ_=>⟨rfl,rfl⟩⟩
  rw[decide_eq_true_eq]at ht;omega
 ·intro F hF ho e s hE
  obtain⟨rfl,rfl⟩:=hE
  dsimp only
  rw[if_pos rfl];exact ho
theorem odd_ok(p:P2)(l:Ctr)(hl:CtrB l):Dyn.CallD Tryz.prog 145 [dvP p,dvC l] (rB (oddF p l)):=
 Dyn.dcontractV (lp:=oddLp p l) (fuel:=3) (X:=tabP) tabP_ok mo Tryz.func145 (by kernel_rfl) (c:=bodyD Tryz.f145.body) (by kernel_rfl)
  (λw0=>by rw[odd_blocks];exact lpOk_cons (odd_outer p l hl w0) (lpOk_cons (λs o h=>by cases h) (lpOk_cons (odd_inner p l hl w0) (lpOk_cons (λs o h=>by cases h) lpOk_nil))))
  (by kernel_rfl) (by kernel_rfl) (show _=[oddS p l 0 false=oddS p l 0 false]by kernel_rfl) ⟨rfl,trivial⟩
def touchF(b:B4)(l:Ctr):Bool:=anyN (λi=>anyN (edgeC l (meets b) i) (l.m i)) l.n
def touH(b:B4)(l:Ctr):List (Option Dyn.HE):=[some (.deep [cCtr l]),some (.cells 114 [vi b.x0,vi b.y0,vi b.x1,vi b.y1])]
def touS(b:B4)(l:Ctr)(i:Int):Dyn.St:=mkS 35 [(0,sV (bx b)),(1,sH 0 0 l.n),(2,sL 1),(4,.k (vb false)),(9,sH 0 0 l.n),(10,sI l.n),(11,sI i)] (touH b l)
def touT(b:B4)(l:Ctr)(i j:Int):Dyn.St:=mkS 35 [(0,sV (bx b)),(1,sH 0 0 l.n),(2,sL 1),(4,.k (vb false)),(6,sH 2 0 (l.m i.toNat)),(9,sH 0 0 l.n),(10,sI l.n),(11,sI i),(15,sH 2 0 (l.m i.toNat)),(16,sI (l.m i.toNat)),(17,sI j)] (touH b l++[some (.deep [cRow (l.m i.toNat) (l.p i.toNat)])])
def touR:Dyn.St:=mkS 35 [(4,.k (vb true))] []
def touK0:List Nat:=[0,1,2,4,9,10,11]
def touK1:List Nat:=[0,1,2,4,6,9,10,11,15,16,17]
def touLp(b:B4)(l:Ctr):Dyn.Lp:=λid s=>match id with
 |0=>some (.side [keepS 35 [0,1] touK0 2048 s=touS b l 0] (.ite (touchF b l) (.leaf .ret touR) (.leaf .normal (touS b l l.n))))
 |2=>
  let i:=intD (s.slots.getD 11 .junk)
  some (.side [keepS 35 [0,1,3] touK1 131072 s=touT b l i 0,0<=i/\i<l.n] (.ite (anyN (edgeC l (meets b) i.toNat) (l.m i.toNat)) (.leaf .ret touR) (.leaf .normal (touT b l i (l.m i.toNat)))))
 |_=>none
def retS(n:Nat)(σ ks:List Nat)(r:Nat):AExit->Dyn.St->Dyn.St
 |.ret,s=>keepS n [] [r] 0 s
 |_,s=>keepS n σ ks 0 s
theorem retS_ent{P:Program}{w0:Dyn.Base P}(n:Nat){σ:List Nat}(hσ:σ.Nodup)(ks:List Nat)(r:Nat)(e:AExit)(s:Dyn.St):Dyn.Ent w0 s (retS n σ ks r e s):=by
 cases e
 ·exact keepS_ent n hσ ks 0 s
 ·exact keepS_ent n hσ ks 0 s
 ·exact keepS_ent n (by decide) [r] 0 s
def touB1(b:B4)(l:Ctr)(i:Int)(k:Nat):Dyn.Out:=
 let m:Int:=l.m i.toNat
 let r:Int:=(W ((k:Int)+1)).tmod m
 .ite (decide ((k:Int)<m)) (.side [0<=(k:Int)/\(k:Int)<m] (.side [m≠0,0<=r/\r<m]
  (.ite (meets b (l.p i.toNat k) (l.p i.toNat r.toNat)) (.leaf .ret touR) (.leaf .normal (touT b l i (W ((k:Int)+1))))))) (.leaf (.exit 2) (touT b l i k))
def touB0(b:B4)(l:Ctr)(k:Nat):Dyn.Out:=
 .ite (decide ((k:Int)<l.n)) (.side [0<=(k:Int)/\(k:Int)<l.n] (.side [touT b l k 0=touT b l k 0,0<=(k:Int)/\(k:Int)<l.n]
  (.ite (anyN (edgeC l (meets b) k) (l.m k)) (.leaf .ret touR) (.leaf .normal (touS b l (W ((k:Int)+1))))))) (.leaf (.exit 0) (touS b l k))
theorem tou_B1(b:B4)(l:Ctr)(i:Int)(k:Nat):(Dyn.lexec Tryz.prog tabP (touLp b l) 3 (unloopD (blkD Tryz.f144.body 2)) .leaf (touT b l i k)).rl (retS 35 [0,1,2] touK1 4)=touB1 b l i k:=by kernel_rfl
theorem tou_B0(b:B4)(l:Ctr)(k:Nat):(Dyn.lexec Tryz.prog tabP (touLp b l) 3 (unloopD (blkD Tryz.f144.body 0)) .leaf (touS b l k)).rl (retS 35 [0,1] touK0 4)=touB0 b l k:=by kernel_rfl
theorem tou_blocks:blocksL (bodyD Tryz.f144.body)=[(0,.loop (unloopD (blkD Tryz.f144.body 0))),(1,blkD Tryz.f144.body 1),(2,.loop (unloopD (blkD Tryz.f144.body 2))),(3,blkD Tryz.f144.body 3)]:=by kernel_rfl
theorem tou_b0:blocksL (unloopD (blkD Tryz.f144.body 0))=[(1,blkD Tryz.f144.body 1),(2,.loop (unloopD (blkD Tryz.f144.body 2))),(3,blkD Tryz.f144.body 3)]:=by kernel_rfl
theorem tou_b2:blocksL (unloopD (blkD Tryz.f144.body 2))=[(3,blkD Tryz.f144.body 3)]:=by kernel_rfl
theorem tou_inner(b:B4)(l:Ctr)(hl:CtrB l)(w0:Dyn.Base Tryz.prog)(s:Dyn.St)(o:Dyn.Out)(h:touLp b l 2 s=some o):Dyn.BlockSound Tryz.prog w0 2 (.loop (unloopD (blkD Tryz.f144.body 2))) s o:=by
 simp only[touLp,Option.some.injEq]at h
 subst h
 refine side_two λhS hi=>?_
 revert hS hi
 generalize intD (s.slots.getD 11 .junk)=i
 intro hS hi
 have hm:l.m i.toNat<=1000000000:=hl.2 _ (by omega)
 refine any_block (fuel:=3) tabP_ok mo (lp:=touLp b l) (by rw[tou_b2];exact lpOk_cons (λs o h=>by cases h) lpOk_nil) (λk=>touT b l i k) (l.m i.toNat) (edgeC l (meets b) i.toNat) touR (retS 35 [0,1,2] touK1 4) (retS_ent 35 (by decide) _ _) (touB1 b l i) (tou_B1 b l i) (λk hk=>?_) ?_ (hS▸keepS_ent 35 (by decide) _ _ s)
 ·obtain⟨e1,e2,e3,e4⟩:=nxt_wrap hk hm
  refine⟨λ_=>⟨⟨⟨by omega,by omega⟩,trivial⟩,⟨e2,e3,trivial⟩,λht=>.inr ⟨rfl,?_,rfl⟩,λhf=>.inl ⟨rfl,?_,?_⟩⟩,λhf=>?_⟩
  ·rw[e4]at ht;exact ht
  ·rw[e4]at hf;exact hf
  ·rw[e1];exact Dyn.Fits.refl _
  ·rw[decide_eq_false_iff_not]at hf;omega
 ·refine⟨λht=>?_,λ_=>⟨rfl,Dyn.Fits.refl _⟩⟩
  rw[decide_eq_true_eq]at ht;omega
theorem tou_outer(b:B4)(l:Ctr)(hl:CtrB l)(w0:Dyn.Base Tryz.prog)(s:Dyn.St)(o:Dyn.Out)(h:touLp b l 0 s=some o):Dyn.BlockSound Tryz.prog w0 0 (.loop (unloopD (blkD Tryz.f144.body 0))) s o:=by
 simp only[touLp,Option.some.injEq]at h
 subst h
 refine side_one λhS=>?_
 have hn:=hl.1
 refine any_block (fuel:=3) tabP_ok mo (lp:=touLp b l) (by rw[tou_b0];exact lpOk_cons (λs o h=>by cases h) (lpOk_cons (tou_inner b l hl w0) (lpOk_cons (λs o h=>by cases h) lpOk_nil))) (λk=>touS b l k) l.n (λi=>anyN (edgeC l (meets b) i) (l.m i)) touR (retS 35 [0,1] touK0 4) (retS_ent 35 (by decide) _ _) (touB0 b l) (tou_B0 b l) (λk hk=>?_) ?_ (hS▸keepS_ent 35 (by decide) _ _ s)
 ·have e1:W ((k:Int)+1)=((k+1:Nat):Int):=by rw[W_id (by omega) (by omega)];omega
  refine⟨λ_=>⟨⟨⟨by omega,by omega⟩,trivial⟩,⟨rfl,⟨by omega,by omega⟩,trivial⟩,λht=>.inr ⟨rfl,ht,rfl⟩,λhf=>.inl ⟨rfl,hf,?_⟩⟩,λhf=>?_⟩
  ·rw[e1];exact Dyn.Fits.refl _
  ·rw[decide_eq_false_iff_not]at hf;omega
 ·refine⟨λht=>?_,λ_=>⟨rfl,Dyn.Fits.refl _⟩⟩
  rw[decide_eq_true_eq]at ht;omega
theorem touches_ok(b:B4)(l:Ctr)(hl:CtrB l):Dyn.CallD Tryz.prog 144 [dvX b,dvC l] (rB (bif touchF b l then true else false)):=
 Dyn.dcontractV (lp:=touLp b l) (fuel:=3) (X:=tabP) tabP_ok mo Tryz.func144 (by kernel_rfl) (c:=bodyD Tryz.f144.body) (by kernel_rfl)
  (λw0=>by rw[tou_blocks];exact lpOk_cons (tou_outer b l hl w0) (lpOk_cons (λs o h=>by cases h) (lpOk_cons (tou_inner b l hl w0) (lpOk_cons (λs o h=>by cases h) lpOk_nil))))
  (by kernel_rfl) (by kernel_rfl) (show _=[touS b l 0=touS b l 0]by kernel_rfl) ⟨rfl,trivial⟩
def spotF(p:P2):B4:=⟨p.x,p.y,p.x,p.y⟩
theorem bif_tf(b:Bool):(bif b then true else false)=b:=by cases b<;>rfl
theorem touches_ok'(b:B4)(l:Ctr)(hl:CtrB l):Dyn.CallD Tryz.prog 144 [dvX b,dvC l] (rB (touchF b l)):=by
 have:=touches_ok b l hl
 rwa [bif_tf]at this
def tbQ:List Entry:=tbP
theorem tbQ_ok:∀e∈tbQ,EntryOk Tryz.prog e:=tbP_ok
def tdQ:List Dyn.EntryD:=[(145,enPC λp l=>rB (oddF p l)),(144,enXC λb l=>rB (touchF b l))]
theorem tdQ_ok:∀e∈tdQ,Dyn.EntryDOk Tryz.prog e:=List.forall_mem_cons.2 ⟨enPC_ok odd_ok,List.forall_mem_cons.2 ⟨enXC_ok touches_ok',λ_ h=>by cases h⟩⟩
def tabQ:Dyn.Tabs:=Dyn.tabs tbQ tdQ noD dtyP
theorem tabQ_ok:Dyn.TabsOk Tryz.prog tabQ:=Dyn.tabs_ok tbQ_ok tdQ_ok
def ctrSelf(l:Ctr):Prop:=∀i,i<l.n->[cRow (l.m i) (l.p i)]=[cRow (l.m i) (l.p i)]
theorem ctrSelf_ok(l:Ctr):ctrSelf l:=λ_ _=>rfl
def polyHasF(p:P2)(l:Ctr):Bool:=orB (touchF (spotF p) l) (oddF p l)
def polyClassF(b:B4)(l:Ctr):Int:=bif touchF b l then 1 else bif andB (boxHas b ⟨b.x0,b.y0⟩) (oddF ⟨b.x0,b.y0⟩ l)then 2 else 0
theorem polyClass_ok(b:B4)(l:Ctr)(hl:CtrB l):Dyn.CallD Tryz.prog 107 [dvX b,dvC l] (rI (polyClassF b l)):=
 Dyn.dcontractV (lp:=Dyn.noLp) (fuel:=3) (X:=tabQ) tabQ_ok mo Tryz.func107 (by kernel_rfl) (c:=bodyD Tryz.f107.body) (by kernel_rfl) (λw0=>Dyn.noLp_ok _ w0)
  (by kernel_rfl) (by kernel_rfl) (show _=[CtrB l,ctrSelf l,touchF b l=false->(some (boxHas b ⟨b.x0,b.y0⟩)=some true/\True->Sym.allP [CtrB l,ctrSelf l])]by kernel_rfl) ⟨hl,ctrSelf_ok l,λ_ _=>⟨hl,ctrSelf_ok l,trivial⟩,trivial⟩
def tamP(l:Ctr)(sm:Bool)(i k:Nat):P2:=⟨bif sm then(lClose (lPt (l.p i k)) 20).x else(lPt (l.p i k)).x,bif sm then(lClose (lPt (l.p i k)) 20).y else(lPt (l.p i k)).y⟩
def tameC(l:Ctr)(sm:Bool):Ctr:=⟨min l.n 4,λi=>min (l.m i) 12,tamP l sm⟩
def tabT:Dyn.Tabs:=Dyn.tabs tbA [] noD dtyP
theorem tabT_ok:Dyn.TabsOk Tryz.prog tabT:=Dyn.tabs_ok tbA_ok (λ_ h=>by cases h)
def tamF(l:Ctr)(sm:Bool)(i:Nat):List Dyn.DC:=[cRow (min (l.m i) 12) (tamP l sm i)]
def tamG(l:Ctr)(sm:Bool)(i:Nat)(k:Nat):List Dyn.DC:=cP (tamP l sm i k)
def tamK0:List Nat:=[0,1,4,5,6]
def tamK1:List Nat:=[0,1,4,5,6,7,8]
def szP(b n:Nat):Prop:=((n+1:Nat):Int)*(b:Int)<=140737488355328/\((n+1:Nat):Int)<=9223372036854775807
theorem szP_ok{b n:Nat}(hb:b<=1000)(hn:n<=1000000000):szP b n:=by
 refine⟨?_,by omega⟩
 have:(n+1)*b<=1000000001*1000:=Nat.mul_le_mul (by omega) hb
 have h2:((n+1:Nat):Int)*(b:Int)=(((n+1)*b:Nat):Int):=by rw[Int.natCast_mul]
 rw[h2];omega
theorem tam_blocks:blocksL (bodyD Tryz.f33.body)=[(0,.loop (unloopD (blkD Tryz.f33.body 0))),(1,blkD Tryz.f33.body 1),(2,.loop (unloopD (blkD Tryz.f33.body 2))),(3,blkD Tryz.f33.body 3)]:=by kernel_rfl
theorem tam_b0:blocksL (unloopD (blkD Tryz.f33.body 0))=[(1,blkD Tryz.f33.body 1),(2,.loop (unloopD (blkD Tryz.f33.body 2))),(3,blkD Tryz.f33.body 3)]:=by kernel_rfl
theorem tam_b2:blocksL (unloopD (blkD Tryz.f33.body 2))=[(3,blkD Tryz.f33.body 3)]:=by kernel_rfl
theorem and_iff{a b:Prop}[Decidable a][Decidable b]:(bif decide a then decide b else false)=true↔a/\b:=by
 by_cases h:a<;>simp[h]
def nmCell(s:Dyn.St)(m j:Nat):Nat:=match s.heap.getD m none with
 |some (.cells _ cs)=>nmOf (.v (cs.getD j (.bool false)))
 |_=>0
def nmCells(s:Dyn.St):List (Nat×Nat)->List Nat
 |[]=>[]
 |(m,j)::l=>nmCell s m j::nmCells s l
def keepC(n:Nat)(σ hs:List Nat)(cl:List (Nat×Nat))(ks:List Nat)(v:Nat)(s:Dyn.St):Dyn.St:=
 match nodupB (σ++nmsOf s hs++nmCells s cl)with
 |true=>Dyn.relabel (σ++nmsOf s hs++nmCells s cl) ((2 ^ n-1) ^^^ maskOf ks) v s
 |false=>s
theorem keepC_ent{P:Program}{w0:Dyn.Base P}(n:Nat)(σ hs:List Nat)(cl:List (Nat×Nat))(ks:List Nat)(v:Nat)(s:Dyn.St):Dyn.Ent w0 s (keepC n σ hs cl ks v s):=by
 unfold keepC
 split
 ·rename_i h;exact Dyn.Ent.label (nodupB_ok h) _ v s
 ·exact Dyn.Ent.refl w0 s
def keepCR(n:Nat)(σ hs:List Nat)(cl:List (Nat×Nat))(ks σr r:List Nat):AExit->Dyn.St->Dyn.St
 |.ret,s=>keepA n σr [] r 0 s
 |_,s=>keepC n σ hs cl ks 0 s
theorem keepCR_ent{P:Program}{w0:Dyn.Base P}(n:Nat)(σ hs:List Nat)(cl:List (Nat×Nat))(ks σr r:List Nat)(e:AExit)(s:Dyn.St):Dyn.Ent w0 s (keepCR n σ hs cl ks σr r e s):=by
 cases e
 ·exact keepC_ent n σ hs cl ks 0 s
 ·exact keepC_ent n σ hs cl ks 0 s
 ·exact keepA_ent n σr [] r 0 s
structure Tn where
 mx:Bool
 my:Bool
 q:Int
 u:P2
abbrev tn(t:Tn):Value:=.agg ⟨[vb t.mx,vb t.my,vi t.q,vi t.u.x,vi t.u.y]⟩
def dT:Value->Option Tn|.agg ⟨[.bool a,.bool b,.int .i64 q,.int .i64 x,.int .i64 y]⟩=>some ⟨a,b,q,⟨x,y⟩⟩|_=>none
theorem dT_eq{v:Value}{x:Tn}(h:dT v=some x):v=tn x:=by
 unfold dT at h;split at h
 ·simp only[Option.some.injEq]at h;subst h;rfl
 ·cases h
def cT(t:Tn):List Dyn.DC:=[cB t.mx,cB t.my,cI t.q,cI t.u.x,cI t.u.y]
def dvT(t:Tn):Dyn.DV:=.agg (cT t)
def quF(q:Int):Int:=band q 3
def turnPtF(p:P2)(t:Tn):P2:=
 let x:=bif t.mx then W (0-p.x)else p.x
 let y:=bif t.my then W (0-p.y)else p.y
 let k:=quF t.q
 let x2:=bif k==1 then W (0-y)else bif k==2 then W (0-x)else bif k==3 then y else x
 let y2:=bif k==1 then x else bif k==2 then W (0-y)else bif k==3 then W (0-x)else y
 ⟨W (x2+t.u.x),W (y2+t.u.y)⟩
def nearF(p:P2):Bool:=andB (andB (andB (decide (p.x>=-536870912)) (decide (p.x<=536870912))) (decide (p.y>=-536870912))) (decide (p.y<=536870912))
def widF(r:Int):Bool:=andB (decide (r>=1)) (decide (r<=536870912))
def foldF(was cls:Int)(add:Bool):Int:=
 bif orB (orB (orB (decide (was<0)) (decide (was>2))) (decide (cls<0))) (decide (cls>2))then 1 else
 bif cls==0 then was else bif andB (cls==2) add then 2 else bif cls==2 then 0 else bif andB add (was==2)then 2 else bif andB (!add) (was==0)then 0 else 1
def aroundF(p q:P2)(r:Int):B4:=⟨imax (W (imin p.x q.x-r)) (-536870912),imax (W (imin p.y q.y-r)) (-536870912),imin (W (imax p.x q.x+r)) 536870912,imin (W (imax p.y q.y+r)) 536870912⟩
def plusF(a b:Int):Int:=bif decide (a>W (9223372036854775807-b))then 9223372036854775807 else W (a+b)
theorem near_ok(p:P2):CallOk Tryz.prog 49 [pt p] (vb (nearF p)):=fnOk (fuel:=16) (tbOf_ok tbA_ok) mo Tryz.func49 (by kernel_rfl) (by kernel_rfl) (by kernel_rfl) (by kernel_rfl)
theorem width_ok(r:Int):CallOk Tryz.prog 50 [vi r] (vb (widF r)):=fnOk (fuel:=16) (tbOf_ok tbA_ok) mo Tryz.func50 (by kernel_rfl) (by kernel_rfl) (by kernel_rfl) (by kernel_rfl)
theorem fold_ok(a b:Int)(c:Bool):CallOk Tryz.prog 72 [vi a,vi b,vb c] (vi (foldF a b c)):=fnOk (fuel:=16) (tbOf_ok tbA_ok) mo Tryz.func72 (by kernel_rfl) (by kernel_rfl) (by kernel_rfl) (by kernel_rfl)
theorem around_ok(p q:P2)(r:Int):CallOk Tryz.prog 84 [pt p,pt q,vi r] (bx (aroundF p q r)):=fnOk (fuel:=16) (tbOf_ok tbA_ok) mo Tryz.func84 (by kernel_rfl) (by kernel_rfl) (by kernel_rfl) (by kernel_rfl)
theorem plus_ok(a b:Int):CallOk Tryz.prog 99 [vi a,vi b] (vi (plusF a b)):=fnOk (fuel:=16) (tbOf_ok tbA_ok) mo Tryz.func99 (by kernel_rfl) (by kernel_rfl) (by kernel_rfl) (by kernel_rfl)
theorem quarters_ok(q:Int):CallOk Tryz.prog 19 [vi q] (vi (quF q)):=fnOk (fuel:=16) (tbOf_ok tbA_ok) mo Tryz.func19 (by kernel_rfl) (by kernel_rfl) (by kernel_rfl) (by kernel_rfl)
def tf0:List Entry:=tbA
theorem tf0_ok:∀e∈tf0,EntryOk Tryz.prog e:=tbA_ok
def tf1:List Entry:=(49,en1 dP (λp=>vb (nearF p)))::(50,en1 dI (λp=>vb (widF p)))::tf0
theorem tf1_ok:∀e∈tf1,EntryOk Tryz.prog e:=List.forall_mem_cons.2 ⟨en1_ok dP_eq near_ok,List.forall_mem_cons.2 ⟨en1_ok dI_eq width_ok,tf0_ok⟩⟩
def tf2:List Entry:=(72,en3 dI dI dB (λa b c=>vi (foldF a b c)))::tf1
theorem tf2_ok:∀e∈tf2,EntryOk Tryz.prog e:=List.forall_mem_cons.2 ⟨en3_ok dI_eq dI_eq dB_eq fold_ok,tf1_ok⟩
def tf3:List Entry:=(84,en3 dP dP dI (λa b c=>bx (aroundF a b c)))::tf2
theorem tf3_ok:∀e∈tf3,EntryOk Tryz.prog e:=List.forall_mem_cons.2 ⟨en3_ok dP_eq dP_eq dI_eq around_ok,tf2_ok⟩
def tf4:List Entry:=(99,en2 dI dI (λa b=>vi (plusF a b)))::tf3
theorem tf4_ok:∀e∈tf4,EntryOk Tryz.prog e:=List.forall_mem_cons.2 ⟨en2_ok dI_eq dI_eq plus_ok,tf3_ok⟩
def tf5:List Entry:=(19,en1 dI (λa=>vi (quF a)))::tf4
theorem tf5_ok:∀e∈tf5,EntryOk Tryz.prog e:=List.forall_mem_cons.2 ⟨en1_ok dI_eq quarters_ok,tf4_ok⟩
theorem turnPt_ok(p:P2)(t:Tn):CallOk Tryz.prog 11 [pt p,tn t] (pt (turnPtF p t)):=fnOk (fuel:=16) (tbOf_ok tf5_ok) mo Tryz.func11 (by kernel_rfl) (by kernel_rfl) (by kernel_rfl) (by kernel_rfl)
def tf6:List Entry:=(11,en2 dP dT (λa b=>pt (turnPtF a b)))::tf5
theorem tf6_ok:∀e∈tf6,EntryOk Tryz.prog e:=List.forall_mem_cons.2 ⟨en2_ok dP_eq dT_eq turnPt_ok,tf5_ok⟩
def tf7:List Entry:=tf6
theorem tf7_ok:∀e∈tf7,EntryOk Tryz.prog e:=tf6_ok
def tf8:List Entry:=tf7
theorem tf8_ok:∀e∈tf8,EntryOk Tryz.prog e:=tf7_ok
def tbF:List Entry:=tf8
theorem tbF_ok:∀e∈tbF,EntryOk Tryz.prog e:=tf8_ok
structure Sh where
 k:Int
 a:P2
 b:P2
 c:P2
 r:Int
 l:Ctr
 n:Nat
 f:Nat->List Dyn.DC
def cS(s:Sh):List Dyn.DC:=[cI s.k,cI s.a.x,cI s.a.y,cI s.b.x,cI s.b.y,cI s.c.x,cI s.c.y,cI s.r,cCtr s.l,.row s.n s.f]
def dvS(s:Sh):Dyn.DV:=.agg (cS s)
inductive Shp where
 |nil
 |mk (k:Int) (a b c:P2) (r:Int) (l:Ctr) (n:Nat) (add:Nat->Bool) (sub:Nat->Shp)
def partC(add:Bool)(s:Sh):List Dyn.DC:=cB add::cS s
def toSh:Shp->Sh
 |.nil=>⟨0,⟨0,0⟩,⟨0,0⟩,⟨0,0⟩,0,⟨0,λ_=>0,λ_ _=>⟨0,0⟩⟩,1,λ_=>[]⟩
 |.mk k a b c r l n add sub=>⟨k,a,b,c,r,l,n,λi=>partC (add i) (toSh (sub i))⟩
abbrev Dec(α:Type):=Dyn.DV->Option (α×List Prop)
def DecOk{α:Type}(q:Dec α)(e:α->Dyn.DV)(p:α->Prop):Prop:=∀d x ps,q d=some (x,ps)->allP ps->Dyn.DVLe d (e x)/\p x
def qOf{α:Type}(a:Dyn.DV->Option α):Dec α:=λd=>match a d with
 |some x=>some (x,[])
 |none=>none
theorem qOf_ok{α:Type}{a:Dyn.DV->Option α}{e:α->Dyn.DV}(h:∀{d x},a d=some x->Dyn.DVLe d (e x)):DecOk (qOf a) e (λ_=>True):=λd x ps hq _=>by
 unfold qOf at hq
 split at hq
 ·rename_i y hy
  simp only[Option.some.injEq,Prod.mk.injEq]at hq
  obtain⟨rfl,rfl⟩:=hq
  exact⟨h hy,trivial⟩
 ·cases hq
def qAnd{α:Type}(q:Dec α)(r:α->Prop):Dec α:=λd=>match q d with
 |some (x,ps)=>some (x,r x::ps)
 |none=>none
theorem qAnd_ok{α:Type}{q:Dec α}{e:α->Dyn.DV}{p r:α->Prop}(h:DecOk q e p):DecOk (qAnd q r) e (λx=>r x/\p x):=λd x ps hq hp=>by
 unfold qAnd at hq
 split at hq
 ·rename_i y ps' hy
  simp only[Option.some.injEq,Prod.mk.injEq]at hq
  obtain⟨rfl,rfl⟩:=hq
  obtain⟨h1,h2⟩:=h d _ _ hy hp.2
  exact⟨h1,hp.1,h2⟩
 ·cases hq
def qX:Dec B4:=qOf aX
def qI:Dec Int:=qOf aI
def qB:Dec Bool:=qOf aB
theorem qX_ok:DecOk qX dvX (λ_=>True):=qOf_ok aX_eq
theorem qI_ok:DecOk qI dvI (λ_=>True):=qOf_ok aI_eq
theorem qB_ok:DecOk qB dvB (λ_=>True):=qOf_ok aB_eq
def qC:Dec Ctr
 |.one (.row n f)=>some (ctrOf n f,[ctrIs n f])
 |_=>none
theorem qC_ok:DecOk qC dvC (λ_=>True):=λd x ps h hp=>by
 unfold qC at h;split at h
 ·simp only[Option.some.injEq,Prod.mk.injEq]at h
  obtain⟨rfl,rfl⟩:=h
  exact⟨⟨rfl,hp.1⟩,trivial⟩
 ·cases h
def en1D{α:Type}(q:Dec α)(F:α->Dyn.RV):List Dyn.DV->Option (Dyn.RV×List Prop)
 |[a]=>match q a with
  |some (x,ps)=>some (F x,ps)
  |none=>none
 |_=>none
def en2D{α β:Type}(q:Dec α)(q2:Dec β)(F:α->β->Dyn.RV):List Dyn.DV->Option (Dyn.RV×List Prop)
 |[a,b]=>match q a,q2 b with
  |some (x,ps),some (y,qs)=>some (F x y,ps++qs)
  |_,_=>none
 |_=>none
def en3D{α β γ:Type}(q:Dec α)(q2:Dec β)(q3:Dec γ)(F:α->β->γ->Dyn.RV):List Dyn.DV->Option (Dyn.RV×List Prop)
 |[a,b,c]=>match q a,q2 b,q3 c with
  |some (x,ps),some (y,qs),some (z,rs)=>some (F x y z,ps++qs++rs)
  |_,_,_=>none
 |_=>none
def en0R(r:Dyn.RV):List Dyn.DV->Option (Dyn.RV×List Prop)
 |[]=>some (r,[])
 |_=>none
theorem en0R_ok{P:Program}{K:Nat}{r:Dyn.RV}(h:Dyn.CallD P K [] r):Dyn.EntryDOk P (K,en0R r):=λargs r' ps hr hp=>by
 dsimp only at hr
 unfold en0R at hr
 split at hr
 ·simp only[Option.some.injEq,Prod.mk.injEq]at hr
  rw[←hr.1];exact h
 ·cases hr
theorem en1D_ok{P:Program}{K:Nat}{α:Type}{q:Dec α}{e:α->Dyn.DV}{p:α->Prop}{F:α->Dyn.RV}(hq:DecOk q e p)(h:∀x,p x->Dyn.CallD P K [e x] (F x)):Dyn.EntryDOk P (K,en1D q F):=λargs r ps hr hp=>by
 dsimp only at hr
 unfold en1D at hr
 split at hr
 ·split at hr
  ·rename_i x ps' hx
   simp only[Option.some.injEq,Prod.mk.injEq]at hr
   obtain⟨rfl,rfl⟩:=hr
   obtain⟨h1,h2⟩:=hq _ _ _ hx hp
   exact CallD_le (args:=[e x]) ⟨h1,trivial⟩ (h x h2)
  ·cases hr
 ·cases hr
theorem en2D_ok{P:Program}{K:Nat}{α β:Type}{q:Dec α}{q2:Dec β}{e:α->Dyn.DV}{e2:β->Dyn.DV}{p:α->Prop}{p2:β->Prop}{F:α->β->Dyn.RV}(hq:DecOk q e p)(hq2:DecOk q2 e2 p2)(h:∀x y,p x->p2 y->Dyn.CallD P K [e x,e2 y] (F x y)):Dyn.EntryDOk P (K,en2D q q2 F):=λargs r ps hr hp=>by
 dsimp only at hr
 unfold en2D at hr
 split at hr
 ·split at hr
  ·rename_i x ps' y qs' hx hy
   simp only[Option.some.injEq,Prod.mk.injEq]at hr
   obtain⟨rfl,rfl⟩:=hr
   rw[allP_append]at hp
   obtain⟨h1,h2⟩:=hq _ _ _ hx hp.1
   obtain⟨h3,h4⟩:=hq2 _ _ _ hy hp.2
   exact CallD_le (args:=[e x,e2 y]) ⟨h1,h3,trivial⟩ (h x y h2 h4)
  ·cases hr
 ·cases hr
def aS:Dyn.DV->Option (Sh×List Prop)
 |.agg [.p (.int .i64 k),.p (.int .i64 a),.p (.int .i64 b),.p (.int .i64 c),.p (.int .i64 d),.p (.int .i64 e),.p (.int .i64 f),.p (.int .i64 r),.row nl fl,.row n g]=>some (⟨k,⟨a,b⟩,⟨c,d⟩,⟨e,f⟩,r,ctrOf nl fl,n,g⟩,[ctrIs nl fl])
 |_=>none
theorem aS_eq{d:Dyn.DV}{x:Sh}{ps:List Prop}(h:aS d=some (x,ps))(hp:allP ps):Dyn.DVLe d (dvS x):=by
 unfold aS at h;split at h
 ·simp only[Option.some.injEq,Prod.mk.injEq]at h
  obtain⟨rfl,rfl⟩:=h
  exact⟨rfl,rfl,rfl,rfl,rfl,rfl,rfl,rfl,⟨rfl,hp.1⟩,⟨rfl,λ_ _=>rfl⟩,trivial⟩
 ·cases h
def qS:Dec Sh:=aS
theorem qS_ok:DecOk qS dvS (λ_=>True):=λd x ps h hp=>⟨aS_eq h hp,trivial⟩
theorem cS_inj{s t:Sh}(h:cS s=cS t):s=t:=by
 have h2:(aS (.agg (cS s))).map (·.1)=(aS (.agg (cS t))).map (·.1):=by rw[h]
 have e:∀s:Sh,(aS (.agg (cS s))).map (·.1)=some s:=λs=>rfl
 rw[e,e]at h2
 exact Option.some.inj h2
theorem toSh_inj:∀(s t:Shp),toSh s=toSh t->s=t:=by
 intro s
 induction s with
 |nil=>
  intro t h
  cases t with
  |nil=>rfl
  |mk k' a' b' c' r' l' n' add' sub'=>
   simp only[toSh,Sh.mk.injEq]at h
   have:=congrFun h.2.2.2.2.2.2.2 0
   cases this
 |mk k a b c r l n add sub ih=>
  intro t h
  cases t with
  |nil=>
   simp only[toSh,Sh.mk.injEq]at h
   have:=congrFun h.2.2.2.2.2.2.2 0
   cases this
  |mk k' a' b' c' r' l' n' add' sub'=>
   simp only[toSh,Sh.mk.injEq]at h
   obtain⟨rfl,rfl,rfl,rfl,rfl,rfl,rfl,hf⟩:=h
   have h1:∀i,add i=add' i/\sub i=sub' i:=λi=>by
    have:=congrFun hf i
    simp only[partC,List.cons.injEq]at this
    refine⟨?_,ih i _ (cS_inj this.2)⟩
    have h2:cB (add i)=cB (add' i):=this.1
    simp only[cB,Dyn.DC.p.injEq,Value.bool.injEq]at h2
    exact h2
   have e1:add=add':=funext λi=>(h1 i).1
   have e2:sub=sub':=funext λi=>(h1 i).2
   rw[e1,e2]
instance:Inhabited Shp:=⟨.nil⟩
def ShB:Shp->Prop
 |.nil=>False
 |.mk _ _ _ _ _ l n _ sub=>CtrB l/\n<=1000000000/\∀i,i<n->ShB (sub i)
def SLe(x y:Sh):Prop:=x.k=y.k/\x.a=y.a/\x.b=y.b/\x.c=y.c/\x.r=y.r/\x.l=y.l/\x.n=y.n/\∀i,i<x.n->x.f i=y.f i
theorem SLe.refl(x:Sh):SLe x x:=⟨rfl,rfl,rfl,rfl,rfl,rfl,rfl,λ_ _=>rfl⟩
theorem SLe.dv{x y:Sh}(h:SLe x y):Dyn.DVLe (dvS x) (dvS y):=by
 obtain⟨k,a,b,c,r,l,n,f⟩:=x
 obtain⟨k',a',b',c',r',l',n',f'⟩:=y
 obtain⟨h1,h2,h3,h4,h5,h6,h7,h8⟩:=h
 dsimp only at h1 h2 h3 h4 h5 h6 h7 h8
 subst h1;subst h2;subst h3;subst h4;subst h5;subst h6;subst h7
 exact⟨rfl,rfl,rfl,rfl,rfl,rfl,rfl,rfl,Dyn.DCLe.refl _,⟨rfl,h8⟩,trivial⟩
noncomputable def ofSh(x:Sh):Shp:=Classical.epsilon λs=>toSh s=x\/((¬∃t,toSh t=x)/\ShB s/\SLe x (toSh s))
theorem ofSh_toSh(s:Shp):ofSh (toSh s)=s:=by
 have h:toSh (ofSh (toSh s))=toSh s\/((¬∃t,toSh t=toSh s)/\ShB (ofSh (toSh s))/\SLe (toSh s) (toSh (ofSh (toSh s)))):=Classical.epsilon_spec (p:=λt=>toSh t=toSh s\/((¬∃u,toSh u=toSh s)/\ShB t/\SLe (toSh s) (toSh t))) ⟨s,.inl rfl⟩
 rcases h with h|h
 ·exact toSh_inj _ _ h
 ·exact absurd ⟨s,rfl⟩ h.1
def PdS(x:Sh):Prop:=ShB (ofSh x)/\SLe x (toSh (ofSh x))
theorem PdS_mk{s:Shp}(h:ShB s):PdS (toSh s):=by unfold PdS;rw[ofSh_toSh];exact⟨h,SLe.refl _⟩
def dtyS(t:TypeId):Bool:=dtyP t||Nat.beq t 37||Nat.beq t 35||Nat.beq t 79
def tabF0:Dyn.Tabs:=Dyn.tabs tbF [] noD noD
theorem tabF0_ok:Dyn.TabsOk Tryz.prog tabF0:=Dyn.tabs_ok tbF_ok (λ_ h=>by cases h)
def tabF1:Dyn.Tabs:=Dyn.tabs tbF [] noD dtyS
theorem tabF1_ok:Dyn.TabsOk Tryz.prog tabF1:=Dyn.tabs_ok tbF_ok (λ_ h=>by cases h)
def zeP(p:P2):Bool:=bif p.x==0 then bif p.y==0 then true else false else false
def bareF(s:Sh):Bool:=
 bif bif bif s.k != 2 then decide ((s.l.n:Int)>0)else false then true else bif s.k != 6 then decide ((s.n:Int)>0)else false then false
 else bif s.k==1 then bif zeP s.b then zeP s.c else false
 else bif bif s.k==3 then s.k==3 else s.k==4 then zeP s.c
 else bif bif s.k==2 then s.k==2 else s.k==6 then bif bif bif zeP s.a then zeP s.b else false then zeP s.c else false then s.r==0 else false
 else true
theorem bare_ok(s:Sh):Dyn.CallD Tryz.prog 48 [dvS s] (rB (bareF s)):=
 Dyn.dcontractV (lp:=Dyn.noLp) (fuel:=3) (X:=tabF0) tabF0_ok mo Tryz.func48 (by kernel_rfl) (c:=bodyD Tryz.f48.body) (by kernel_rfl) (λw0=>Dyn.noLp_ok _ w0) (by kernel_rfl) (by kernel_rfl) (show _=[]by kernel_rfl) trivial
def ctgI(l:Ctr)(i:Nat)(k:Nat)(_:Unit):Bool×Unit:=(nearF (l.p i k),())
def ctgO(l:Ctr)(i:Nat)(left:Int):Bool×Int:=
 bif decide ((l.m i:Int)>left)then(false,left)else((runN (ctgI l i) () (l.m i)).1,W (left-l.m i))
def contoursF(l:Ctr):Bool:=(runN (ctgO l) 1000 l.n).1
def ctS(l:Ctr)(k:Int)(left:Int):Dyn.St:=mkS 33 [(0,sH 0 0 l.n),(2,.k (vb false)),(3,sI left),(8,sH 0 0 l.n),(9,sI l.n),(10,sI k)] [some (.deep [cCtr l])]
def ctT(l:Ctr)(k:Int)(left:Int)(j:Int):Dyn.St:=mkS 33 [(0,sH 0 0 l.n),(2,.k (vb false)),(3,sI left),(5,sH 1 0 (l.m k.toNat)),(8,sH 0 0 l.n),(9,sI l.n),(10,sI k),(22,sH 1 0 (l.m k.toNat)),(23,sI (l.m k.toNat)),(24,sI j)] [some (.deep [cCtr l]),some (.deep [cRow (l.m k.toNat) (l.p k.toNat)])]
def ctR:Dyn.St:=mkS 33 [(2,.k (vb false))] []
def ctK0:List Nat:=[0,2,3,8,9,10]
def ctK1:List Nat:=[0,2,3,5,8,9,10,22,23,24]
def ctLp(l:Ctr):Dyn.Lp:=λid s=>match id with
 |0=>some (.side [keepS 33 [0] ctK0 (2 ^ 3+2 ^ 10) s=ctS l 0 1000] (.ite (contoursF l) (.leaf .normal (ctS l l.n (runN (ctgO l) 1000 l.n).2)) (.leaf .ret ctR)))
 |2=>
  let k:=intD (s.slots.getD 10 .junk)
  let left:=intD (s.slots.getD 3 .junk)
  some (.side [keepA 33 [0] [5] ctK1 (2 ^ 24) s=ctT l k left 0,0<=k/\k<l.n] (.ite (runN (ctgI l k.toNat) () (l.m k.toNat)).1 (.leaf .normal (ctT l k left (l.m k.toNat))) (.leaf .ret ctR)))
 |_=>none
def ctB1(l:Ctr)(k:Int)(left:Int)(j:Nat):Dyn.Out:=
 .ite (decide ((j:Int)<l.m k.toNat)) (.side [0<=(j:Int)/\(j:Int)<l.m k.toNat] (.ite (!nearF (l.p k.toNat j)) (.leaf .ret ctR) (.leaf .normal (ctT l k left (W (j+1)))))) (.leaf (.exit 2) (ctT l k left j))
def ctB0(l:Ctr)(k:Nat)(left:Int):Dyn.Out:=
 .ite (decide ((k:Int)<l.n)) (.side [0<=(k:Int)/\(k:Int)<l.n] (.ite (decide ((l.m k:Int)>left)) (.leaf .ret ctR) (.side [ctT l k (W (left-l.m k)) 0=ctT l k (W (left-l.m k)) 0,0<=(k:Int)/\(k:Int)<l.n]
  (.ite (runN (ctgI l k) () (l.m k)).1 (.leaf .normal (ctS l (W (k+1)) (W (left-l.m k)))) (.leaf .ret ctR))))) (.leaf (.exit 0) (ctS l k left))
theorem ct_B1(l:Ctr)(k left:Int)(j:Nat):(Dyn.lexec Tryz.prog tabF1 (ctLp l) 3 (unloopD (blkD Tryz.f51.body 2)) .leaf (ctT l k left j)).rl (keepR 33 [0] [5] ctK1 [2])=ctB1 l k left j:=by kernel_rfl
theorem ct_B0(l:Ctr)(k:Nat)(left:Int):(Dyn.lexec Tryz.prog tabF1 (ctLp l) 3 (unloopD (blkD Tryz.f51.body 0)) .leaf (ctS l k left)).rl (keepR 33 [0] [] ctK0 [2])=ctB0 l k left:=by kernel_rfl
theorem ct_blocks:blocksL (bodyD Tryz.f51.body)=[(0,.loop (unloopD (blkD Tryz.f51.body 0))),(1,blkD Tryz.f51.body 1),(2,.loop (unloopD (blkD Tryz.f51.body 2))),(3,blkD Tryz.f51.body 3)]:=by kernel_rfl
theorem ct_b0:blocksL (unloopD (blkD Tryz.f51.body 0))=[(1,blkD Tryz.f51.body 1),(2,.loop (unloopD (blkD Tryz.f51.body 2))),(3,blkD Tryz.f51.body 3)]:=by kernel_rfl
theorem ct_b2:blocksL (unloopD (blkD Tryz.f51.body 2))=[(3,blkD Tryz.f51.body 3)]:=by kernel_rfl
theorem ct_inner(l:Ctr)(hl:CtrB l)(w0:Dyn.Base Tryz.prog)(s:Dyn.St)(o:Dyn.Out)(h:ctLp l 2 s=some o):Dyn.BlockSound Tryz.prog w0 2 (.loop (unloopD (blkD Tryz.f51.body 2))) s o:=by
 simp only[ctLp,Option.some.injEq]at h
 subst h
 refine side_two λhS hi=>?_
 revert hS hi
 generalize intD (s.slots.getD 10 .junk)=k
 generalize intD (s.slots.getD 3 .junk)=left
 intro hS hi
 have hm:l.m k.toNat<=1000000000:=hl.2 _ (by omega)
 refine run_block (fuel:=3) tabF1_ok mo (lp:=ctLp l) (by rw[ct_b2];exact lpOk_cons (λs o h=>by cases h) lpOk_nil) (λj (_:Unit)=>ctT l k left j) (l.m k.toNat) (ctgI l k.toNat) () (λ_=>ctR) (keepR 33 [0] [5] ctK1 [2]) (keepR_ent 33 _ _ _ _) (λj _=>ctB1 l k left j) (λj _=>ct_B1 l k left j) (λj a hj ha=>?_) (λa ha=>?_) (hS▸keepA_ent 33 _ _ _ _ s)
 ·refine⟨λ_=>⟨⟨⟨by omega,by omega⟩,trivial⟩,λhn=>.inr ⟨rfl,?_,Dyn.Fits.refl _⟩,λhn=>.inl ⟨rfl,?_,?_⟩⟩,λhf=>?_⟩
  ·simpa [ctgI]using hn
  ·simpa [ctgI]using hn
  ·show Dyn.Fits (ctT l k left (W (j+1))) _
   rw[Wn1 hj hm];exact Dyn.Fits.refl _
  ·rw[decide_eq_false_iff_not]at hf;omega
 ·refine⟨λht=>?_,λ_=>⟨rfl,Dyn.Fits.refl _⟩⟩
  rw[decide_eq_true_eq]at ht;omega
theorem ct_outer(l:Ctr)(hl:CtrB l)(w0:Dyn.Base Tryz.prog)(s:Dyn.St)(o:Dyn.Out)(h:ctLp l 0 s=some o):Dyn.BlockSound Tryz.prog w0 0 (.loop (unloopD (blkD Tryz.f51.body 0))) s o:=by
 simp only[ctLp,Option.some.injEq]at h
 subst h
 refine side_one λhS=>?_
 refine run_block (fuel:=3) tabF1_ok mo (lp:=ctLp l) (by rw[ct_b0];exact lpOk_cons (λs o h=>by cases h) (lpOk_cons (ct_inner l hl w0) (lpOk_cons (λs o h=>by cases h) lpOk_nil))) (λk left=>ctS l k left) l.n (ctgO l) 1000 (λ_=>ctR) (keepR 33 [0] [] ctK0 [2]) (keepR_ent 33 _ _ _ _) (λk left=>ctB0 l k left) (λk left=>ct_B0 l k left) (λk left hk ha=>?_) (λa ha=>?_) (hS▸keepS_ent 33 (by decide) _ _ s)
 ·unfold ctgO
  refine⟨λ_=>⟨⟨⟨by omega,by omega⟩,trivial⟩,λhn=>.inr ⟨rfl,?_,Dyn.Fits.refl _⟩,λhn=>⟨⟨rfl,⟨by omega,by omega⟩,trivial⟩,λhx=>.inl ⟨rfl,?_,?_⟩,λhx=>.inr ⟨rfl,?_,Dyn.Fits.refl _⟩⟩⟩,λhf=>?_⟩
  ·rw[hn];rfl
  ·rw[hn];exact hx
  ·rw[hn]
   show Dyn.Fits (ctS l (W (k+1)) _) _
   rw[Wn1 hk hl.1];exact Dyn.Fits.refl _
  ·rw[hn];exact hx
  ·rw[decide_eq_false_iff_not]at hf;omega
 ·refine⟨λht=>?_,λ_=>⟨rfl,Dyn.Fits.refl _⟩⟩
  rw[decide_eq_true_eq]at ht;omega
theorem contours_ok(l:Ctr)(hl:CtrB l):Dyn.CallD Tryz.prog 51 [dvC l] (rB (contoursF l)):=by
 have:=Dyn.dcontractV (args:=[dvC l]) (lp:=ctLp l) (fuel:=3) (X:=tabF1) (v:=vb (bif contoursF l then true else false)) (l:=[ctS l 0 1000=ctS l 0 1000]) tabF1_ok mo Tryz.func51 (by kernel_rfl) (c:=bodyD Tryz.f51.body) (by kernel_rfl)
  (λw0=>by rw[ct_blocks];exact lpOk_cons (ct_outer l hl w0) (lpOk_cons (λs o h=>by cases h) (lpOk_cons (ct_inner l hl w0) (lpOk_cons (λs o h=>by cases h) lpOk_nil))))
  (by kernel_rfl) (by kernel_rfl) (by kernel_rfl) ⟨rfl,trivial⟩
 rwa [bif_tf]at this
def mkSh(k:Int)(a b c:P2)(r:Int)(l:Ctr)(n:Nat)(add:Nat->Bool)(sh:Nat->Sh):Sh:=⟨k,a,b,c,r,l,n,λi=>partC (add i) (sh i)⟩
def validG(g:Sh->Int->Int->Bool×Int)(sh:Nat->Sh)(s:Sh)(forms left:Int):Bool×Int:=
 bif decide (left<1)then(false,left)else
 bif !(bareF s)then(false,W (left-1))else
 bif s.k==1 then(andB (nearF s.a) (widF s.r),W (left-1))else
 bif s.k==2 then(contoursF s.l,W (left-1))else
 bif s.k==3 then(andB (andB (nearF s.a) (nearF s.b)) (widF s.r),W (left-1))else
 bif s.k==4 then(andB (andB (andB (nearF s.a) (nearF s.b)) (widF s.r)) (!(bif s.a.x==s.b.x then bif s.a.y==s.b.y then true else false else false)),W (left-1))else
 bif s.k==5 then(andB (andB (andB (andB (nearF s.a) (nearF s.b)) (nearF s.c)) (widF s.r)) (ringOk s.c s.a s.b),W (left-1))else
 bif s.k==6 then(bif decide (forms>=8)then(false,W (left-1))else runN (λi lf=>g (sh i) (W (forms+1)) lf) (W (left-1)) s.n)
 else(false,W (left-1))
def enV(Pd:Sh->Prop)(g:Sh->Int->Int->Bool×Int):List Dyn.LA->Dyn.Lent->Option (Value×List (List Value)×List Prop)
 |[.d u,.d v,.lp 0 0],[(t,[.int .i64 left])]=>match qS u,aI v,Nat.beq t 3 with
  |some (x,ps),some forms,true=>some (vb (g x forms left).1,[[vi (g x forms left).2]],Pd x::ps)
  |_,_,_=>none
 |_,_=>none
theorem CallX_le{P:Program}{K:Nat}{u u' v v':Dyn.DV}{l:List Dyn.LA}{lent:Dyn.Lent}{r:Value}{o:List (List Value)}(h1:Dyn.DVLe u u')(h2:Dyn.DVLe v v')(k:Dyn.CallX P K (.d u'::.d v'::l) lent r o):Dyn.CallX P K (.d u::.d v::l) lent r o:=λw F bs us hF hn hd hl hden=>k w F bs us hF hn hd hl (by
 cases us with
 |nil=>exact hden
 |cons x us=>cases us with
  |nil=>exact hden.2.elim
  |cons y us=>exact⟨Dyn.DenV_le h1 hden.1,Dyn.DenV_le h2 hden.2.1,hden.2.2⟩)
def VaOk(x:Sh)(g:Sh->Int->Int->Bool×Int):Prop:=∀forms left,Dyn.CallX Tryz.prog 34 [.d (dvS x),.d (dvI forms),.lp 0 0] [(3,[vi left])] (vb (g x forms left).1) [[vi (g x forms left).2]]
theorem enV_ok{Pd:Sh->Prop}{g:Sh->Int->Int->Bool×Int}(ih:∀x,Pd x->VaOk x g):Dyn.EntryXOk Tryz.prog (34,enV Pd g):=λas' lent u out ps h hp=>by
 dsimp only at h
 unfold enV at h
 split at h
 ·rename_i t left
  split at h
  ·rename_i x ps' forms hx hf ht
   have ht':=Nat.eq_of_beq_eq_true ht
   subst ht'
   simp only[Option.some.injEq,Prod.mk.injEq]at h
   obtain⟨rfl,rfl,rfl⟩:=h
   exact CallX_le (qS_ok _ _ _ hx hp.2).1 (aI_eq hf) (ih x hp.1 forms left)
  ·cases h
 ·cases h
def tdV:List Dyn.EntryD:=[(48,en1D qS λs=>rB (bareF s)),(51,en1D (qAnd qC CtrB) λl=>rB (contoursF l))]
theorem tdV_ok:∀e∈tdV,Dyn.EntryDOk Tryz.prog e:=List.forall_mem_cons.2 ⟨en1D_ok qS_ok λs _=>bare_ok s,List.forall_mem_cons.2 ⟨en1D_ok (qAnd_ok qC_ok) λl h=>contours_ok l h.1,λ_ h=>by cases h⟩⟩
def drV(K:Nat):Bool:=Nat.beq K 34
def tabV(Pd:Sh->Prop)(g:Sh->Int->Int->Bool×Int):Dyn.Tabs:=Dyn.tabsX tbF tdV [(34,enV Pd g)] drV dtyS false
theorem tabV_ok{Pd:Sh->Prop}{g:Sh->Int->Int->Bool×Int}(ih:∀x,Pd x->VaOk x g):Dyn.TabsOk Tryz.prog (tabV Pd g):=
 Dyn.tabsX_ok tbF_ok tdV_ok (List.forall_mem_cons.2 ⟨enV_ok ih,λ_ h=>by cases h⟩)
def vaG(g:Sh->Int->Int->Bool×Int)(sh:Nat->Sh)(forms:Int)(i:Nat)(left:Int):Bool×Int:=g (sh i) (W (forms+1)) left
def vaS(s:Sh)(forms left i:Int):Dyn.St:=mkF 123 [(1,sI forms),(2,sL 0),(6,.k (vb false)),(109,sH 1 9 s.n),(110,sI s.n),(111,sI i)] [some (.cells 3 [vi left]),some (.deep (cS s))] [(2,0)]
def vaR(left:Int):Dyn.St:=mkF 123 [(2,sL 0),(6,.k (vb false))] [some (.cells 3 [vi left])] [(2,0)]
def vaK:List Nat:=[1,2,6,109,110,111]
def vaLp(g:Sh->Int->Int->Bool×Int)(sh:Nat->Sh)(s:Sh)(forms left:Int):Dyn.Lp:=λid st=>match id with
 |1=>some (.side [keepA 123 [0,1] [] vaK (2 ^ 111) st=vaS s forms left 0] (.ite (runN (vaG g sh forms) left s.n).1 (.leaf .normal (vaS s forms (runN (vaG g sh forms) left s.n).2 s.n)) (.leaf .ret (vaR (runN (vaG g sh forms) left s.n).2))))
 |_=>none
def vaB(Pd:Sh->Prop)(g:Sh->Int->Int->Bool×Int)(sh:Nat->Sh)(s:Sh)(forms:Int)(i:Nat)(left:Int):Dyn.Out:=
 .ite (decide ((i:Int)<s.n)) (.side [0<=(i:Int)/\(i:Int)<s.n] (.side [Pd (sh i),ctrSelf (sh i).l] (.ite (!(g (sh i) (W (forms+1)) left).1) (.leaf .ret (vaR (g (sh i) (W (forms+1)) left).2)) (.leaf .normal (vaS s forms (g (sh i) (W (forms+1)) left).2 (W (i+1))))))) (.leaf (.exit 1) (vaS s forms left i))
theorem va_B(Pd:Sh->Prop)(g:Sh->Int->Int->Bool×Int)(k:Int)(a b c:P2)(r:Int)(l:Ctr)(n:Nat)(add:Nat->Bool)(sh:Nat->Sh)(forms l0:Int)(i:Nat)(left:Int) :
  (Dyn.lexec Tryz.prog (tabV Pd g) (vaLp g sh (mkSh k a b c r l n add sh) forms l0) 3 (unloopD (blkD Tryz.f34.body 1)) .leaf (vaS (mkSh k a b c r l n add sh) forms left i)).rl (keepQ 123 [0,1] [] vaK [0] [2,6])=vaB Pd g sh (mkSh k a b c r l n add sh) forms i left:=by kernel_rfl
theorem va_blocks:blocksL (bodyD Tryz.f34.body)=[(0,blkD Tryz.f34.body 0),(1,.loop (unloopD (blkD Tryz.f34.body 1))),(2,blkD Tryz.f34.body 2)]:=by kernel_rfl
theorem va_b1:blocksL (unloopD (blkD Tryz.f34.body 1))=[(2,blkD Tryz.f34.body 2)]:=by kernel_rfl
theorem va_loop{Pd:Sh->Prop}{g:Sh->Int->Int->Bool×Int}(ih:∀x,Pd x->VaOk x g)(k:Int)(a b c:P2)(r:Int)(l:Ctr)(n:Nat)(add:Nat->Bool)(sh:Nat->Sh)(hn:n<=1000000000)(hP:∀i,i<n->Pd (sh i))(forms l0:Int)(w0:Dyn.Base Tryz.prog)(s:Dyn.St)(o:Dyn.Out)
  (h:vaLp g sh (mkSh k a b c r l n add sh) forms l0 1 s=some o):Dyn.BlockSound Tryz.prog w0 1 (.loop (unloopD (blkD Tryz.f34.body 1))) s o:=by
 simp only[vaLp,Option.some.injEq]at h
 subst h
 refine side_one λhS=>?_
 refine run_block (fuel:=3) (tabV_ok ih) mo (lp:=vaLp g sh (mkSh k a b c r l n add sh) forms l0) (by rw[va_b1];exact lpOk_cons (λs o h=>by cases h) lpOk_nil) (λi left=>vaS (mkSh k a b c r l n add sh) forms left i) n (vaG g sh forms) l0 vaR (keepQ 123 [0,1] [] vaK [0] [2,6]) (keepQ_ent 123 _ _ _ _ _) (λi left=>vaB Pd g sh (mkSh k a b c r l n add sh) forms i left) (λi left=>va_B Pd g k a b c r l n add sh forms l0 i left) (λi left hi ha=>?_) (λleft ha=>?_) (hS▸keepA_ent 123 _ _ _ _ s)
 ·refine⟨λ_=>⟨⟨⟨by omega,by show(i:Int)<(n:Int);omega⟩,trivial⟩,⟨hP i hi,ctrSelf_ok _,trivial⟩,λhx=>.inr ⟨rfl,?_,Dyn.Fits.refl _⟩,λhx=>.inl ⟨rfl,?_,?_⟩⟩,λhf=>?_⟩
  ·simpa [vaG]using hx
  ·simpa [vaG]using hx
  ·rw[Wn1 hi hn];exact Dyn.Fits.refl _
  ·rw[decide_eq_false_iff_not]at hf
   exact absurd (show(i:Int)<(n:Int)by omega) hf
 ·refine⟨λht=>?_,λ_=>⟨rfl,Dyn.Fits.refl _⟩⟩
  rw[decide_eq_true_eq]at ht
  exact absurd (show(n:Int)<(n:Int)from ht) (by omega)
def vaO(g:Sh->Int->Int->Bool×Int)(sh:Nat->Sh)(s:Sh)(forms left:Int):Dyn.RX:=
 .ite (decide (left<1)) (.leaf (vb false) [[vi left]])
 (.side [ctrSelf s.l] (.ite (!(bareF s)) (.leaf (vb false) [[vi (W (left-1))]])
 (.ite (s.k==1) (.leaf (vb (andB (nearF s.a) (widF s.r))) [[vi (W (left-1))]])
 (.ite (s.k==2) (.side [CtrB s.l,ctrSelf s.l] (.leaf (vb (contoursF s.l)) [[vi (W (left-1))]]))
 (.ite (s.k==3) (.leaf (vb (andB (andB (nearF s.a) (nearF s.b)) (widF s.r))) [[vi (W (left-1))]])
 (.ite (s.k==4) (.leaf (vb (andB (andB (andB (nearF s.a) (nearF s.b)) (widF s.r)) (!(bif s.a.x==s.b.x then bif s.a.y==s.b.y then true else false else false)))) [[vi (W (left-1))]])
 (.ite (s.k==5) (.leaf (vb (andB (andB (andB (andB (nearF s.a) (nearF s.b)) (nearF s.c)) (widF s.r)) (ringOk s.c s.a s.b))) [[vi (W (left-1))]])
 (.ite (s.k==6) (.ite (decide (forms>=8)) (.leaf (vb false) [[vi (W (left-1))]]) (.side [vaS s forms (W (left-1)) 0=vaS s forms (W (left-1)) 0] (.ite (runN (vaG g sh forms) (W (left-1)) s.n).1 (.leaf (vb true) [[vi (runN (vaG g sh forms) (W (left-1)) s.n).2]]) (.leaf (vb false) [[vi (runN (vaG g sh forms) (W (left-1)) s.n).2]]))))
 (.leaf (vb false) [[vi (W (left-1))]])))))))))
theorem va_O(Pd:Sh->Prop)(g:Sh->Int->Int->Bool×Int)(s:Sh)(sh:Nat->Sh)(forms left:Int):(Dyn.dfunX Tryz.prog (tabV Pd g) (vaLp g sh s forms (W (left-1))) 3 Tryz.f34 [(3,[vi left])] [.d (dvS s),.d (dvI forms),.lp 0 0]).rx Tryz.prog [(3,[vi left])] Tryz.f34.results=vaO g sh s forms left:=by kernel_rfl
theorem va_sat(g:Sh->Int->Int->Bool×Int)(sh:Nat->Sh)(s:Sh)(hl:CtrB s.l)(forms left:Int):(vaO g sh s forms left).sat λu os=>u=vb (validG g sh s forms left).1/\os=[[vi (validG g sh s forms left).2]]:=by
 unfold validG
 refine⟨λh=>?_,λh=>⟨⟨ctrSelf_ok _,trivial⟩,λh1=>?_,λh1=>⟨λh2=>?_,λh2=>⟨λh3=>⟨⟨hl,ctrSelf_ok _,trivial⟩,?_⟩,λh3=>⟨λh4=>?_,λh4=>⟨λh5=>?_,λh5=>⟨λh6=>?_,λh6=>⟨λh7=>⟨λh8=>?_,λh8=>⟨⟨rfl,trivial⟩,λh9=>?_,λh9=>?_⟩⟩,λh7=>?_⟩⟩⟩⟩⟩⟩⟩⟩
 ·rw[h];exact⟨rfl,rfl⟩
 ·rw[h,h1];exact⟨rfl,rfl⟩
 ·rw[h,h1,h2];exact⟨rfl,rfl⟩
 ·rw[h,h1,h2,h3];exact⟨rfl,rfl⟩
 ·rw[h,h1,h2,h3,h4];exact⟨rfl,rfl⟩
 ·rw[h,h1,h2,h3,h4,h5];exact⟨rfl,rfl⟩
 ·rw[h,h1,h2,h3,h4,h5,h6];exact⟨rfl,rfl⟩
 ·rw[h,h1,h2,h3,h4,h5,h6,h7,h8];exact⟨rfl,rfl⟩
 ·rw[h,h1,h2,h3,h4,h5,h6,h7,h8];exact⟨congrArg vb h9.symm,rfl⟩
 ·rw[h,h1,h2,h3,h4,h5,h6,h7,h8];exact⟨congrArg vb h9.symm,rfl⟩
 ·rw[h,h1,h2,h3,h4,h5,h6,h7];exact⟨rfl,rfl⟩
theorem valid_lvl{Pd:Sh->Prop}{g:Sh->Int->Int->Bool×Int}(ih:∀x,Pd x->VaOk x g)(k:Int)(a b c:P2)(r:Int)(l:Ctr)(n:Nat)(add:Nat->Bool)(sh:Nat->Sh)(hl:CtrB l)(hn:n<=1000000000)(hP:∀i,i<n->Pd (sh i))(forms left:Int) :
  Dyn.CallX Tryz.prog 34 [.d (dvS (mkSh k a b c r l n add sh)),.d (dvI forms),.lp 0 0] [(3,[vi left])] (vb (validG g sh (mkSh k a b c r l n add sh) forms left).1) [[vi (validG g sh (mkSh k a b c r l n add sh) forms left).2]]:=
 Dyn.xcontract (lp:=vaLp g sh (mkSh k a b c r l n add sh) forms (W (left-1))) (fuel:=3) (tabV_ok ih) mo Tryz.func34 (by kernel_rfl) (c:=bodyD Tryz.f34.body) (by kernel_rfl)
  (λw0=>by rw[va_blocks];exact lpOk_cons (λs o h=>by cases h) (lpOk_cons (va_loop ih k a b c r l n add sh hn hP forms _ w0) (lpOk_cons (λs o h=>by cases h) lpOk_nil)))
  (by kernel_rfl) (by kernel_rfl) (by kernel_rfl) (va_O Pd g _ sh forms left) (va_sat g sh _ hl forms left)
def validF:Shp->Int->Int->Bool×Int
 |.nil,_,left=>(false,left)
 |.mk k a b c r l n add sub,forms,left=>
  bif decide (left<1)then(false,left)else
  bif !(bareF (toSh (.mk k a b c r l n add sub)))then(false,W (left-1))else
  bif k==1 then(andB (nearF a) (widF r),W (left-1))else
  bif k==2 then(contoursF l,W (left-1))else
  bif k==3 then(andB (andB (nearF a) (nearF b)) (widF r),W (left-1))else
  bif k==4 then(andB (andB (andB (nearF a) (nearF b)) (widF r)) (!(bif a.x==b.x then bif a.y==b.y then true else false else false)),W (left-1))else
  bif k==5 then(andB (andB (andB (andB (nearF a) (nearF b)) (nearF c)) (widF r)) (ringOk c a b),W (left-1))else
  bif k==6 then(bif decide (forms>=8)then(false,W (left-1))else runN (λi lf=>validF (sub i) (W (forms+1)) lf) (W (left-1)) n)
  else(false,W (left-1))
noncomputable def vE(x:Sh)(forms left:Int):Bool×Int:=validF (ofSh x) forms left
theorem vE_eq(s:Shp)(forms left:Int):vE (toSh s) forms left=validF s forms left:=by unfold vE;rw[ofSh_toSh]
theorem validF_lvl(k:Int)(a b c:P2)(r:Int)(l:Ctr)(n:Nat)(add:Nat->Bool)(sub:Nat->Shp)(forms left:Int):validF (.mk k a b c r l n add sub) forms left=validG vE (λi=>toSh (sub i)) (toSh (.mk k a b c r l n add sub)) forms left:=by
 unfold validG
 simp only[vE_eq]
 rfl
theorem valid_ok:∀s:Shp,ShB s->VaOk (toSh s) vE:=by
 intro s
 induction s with
 |nil=>intro h;exact h.elim
 |mk k a b c r l n add sub ih=>
  intro h forms left
  rw[vE_eq,validF_lvl]
  exact valid_lvl (Pd:=λx=>∃i,i<n/\x=toSh (sub i)) (λx hx=>by
   obtain⟨i,hi,rfl⟩:=hx
   exact ih i (h.2.2 i hi)) k a b c r l n add (λi=>toSh (sub i)) h.1 h.2.1 (λi hi=>⟨i,hi,rfl⟩) forms left
noncomputable def okE(x:Sh):Bool:=(vE x 0 1000).1
theorem va_all:∀x,PdS x->VaOk x vE:=λx hx forms left=>by
 have k:=valid_ok _ hx.1 forms left
 rw[show vE (toSh (ofSh x)) forms left=vE x forms left by unfold vE;rw[ofSh_toSh]]at k
 exact CallX_le (SLe.dv hx.2) (Dyn.DVLe.refl _) k
theorem figOk_ok(x:Sh)(h:PdS x):Dyn.CallD Tryz.prog 17 [dvS x] (rB (okE x)):=
 Dyn.dcontractV (lp:=Dyn.noLp) (fuel:=3) (tabV_ok va_all) mo Tryz.func17 (by kernel_rfl) (c:=bodyD Tryz.f17.body) (by kernel_rfl) (λw0=>Dyn.noLp_ok _ w0) (by kernel_rfl) (by kernel_rfl) (show _=[PdS x,ctrSelf x.l]by kernel_rfl) ⟨h,ctrSelf_ok _,trivial⟩
def shV(nm off:Nat)(s:Sh):List Value:=[vi s.k,vi s.a.x,vi s.a.y,vi s.b.x,vi s.b.y,vi s.c.x,vi s.c.y,vi s.r,.slice (some ⟨nm,off,some 0⟩) s.l.n 0,.slice (some ⟨nm,off+1,some 0⟩) s.n 0]
theorem ro_leaf{r r':Dyn.RV}(h:r=r'):(Dyn.RO.leaf r).sat (λq=>Dyn.RVLe q r'):=by subst h;exact Dyn.RVLe.refl _
def hasF:Shp->P2->Bool
 |.nil,_=>false
 |.mk k a b c r l n add sub,p=>bif k==1 then discHas p a r else bif k==2 then polyHasF p l else bif k==3 then lineHas p a b r else bif k==4 then barHas p a b r else bif k==5 then ringHas p c a b r else
  (runN (λt (_:Bool)=>bif hasF (sub (n-1-t)) p then(false,add (n-1-t))else(true,false)) false n).2
def clG(g:Sh->B4->Int)(sh:Nat->Sh)(add:Nat->Bool)(b:B4)(i:Nat)(acc:Int):Int:=foldF acc (g (sh i) b) (add i)
def classG(g:Sh->B4->Int)(sh:Nat->Sh)(add:Nat->Bool)(s:Sh)(b:B4):Int:=
 bif s.k==1 then discClass b s.a s.r else bif s.k==2 then polyClassF b s.l else bif s.k==3 then lineClass b s.a s.b s.r else bif s.k==4 then barClass b s.a s.b s.r else bif s.k==5 then ringClass b s.c s.a s.b s.r else
 foldN (clG g sh add b) 0 s.n
def ClsOk(x:Sh)(g:Sh->B4->Int):Prop:=∀b,Dyn.CallD Tryz.prog 88 [dvS x,dvX b] (rI (g x b))
def tdK(Pd:Sh->Prop)(g:Sh->B4->Int):List Dyn.EntryD:=[(107,en2D qX (qAnd qC CtrB) λb l=>rI (polyClassF b l)),(88,en2D (qAnd qS Pd) qX λx b=>rI (g x b))]
def tabK(Pd:Sh->Prop)(g:Sh->B4->Int):Dyn.Tabs:=Dyn.tabs tbF (tdK Pd g) noD dtyS
theorem tabK_ok{Pd:Sh->Prop}{g:Sh->B4->Int}(ih:∀x,Pd x->ClsOk x g):Dyn.TabsOk Tryz.prog (tabK Pd g):=
 Dyn.tabs_ok tbF_ok (List.forall_mem_cons.2 ⟨en2D_ok qX_ok (qAnd_ok qC_ok) λp l _ h=>polyClass_ok p l h.1,List.forall_mem_cons.2 ⟨en2D_ok (qAnd_ok qS_ok) qX_ok λx p h _=>ih x h.1 p,λ_ h=>by cases h⟩⟩)
def clS(s:Sh)(b:B4)(acc i:Int):Dyn.St:=mkS 73 [(2,sL 1),(3,sL 2),(4,.k (vi 0)),(5,sI acc),(57,sH 0 9 s.n),(58,sI s.n),(59,sI i)] [some (.deep (cS s)),some (.cells 37 (shV 0 8 s)),some (.cells 114 [vi b.x0,vi b.y0,vi b.x1,vi b.y1])]
def clK:List Nat:=[2,3,4,5,57,58,59]
def clLp(g:Sh->B4->Int)(sh:Nat->Sh)(add:Nat->Bool)(s:Sh)(b:B4):Dyn.Lp:=λid st=>match id with
 |1=>some (.side [keepA 73 [0,1,2] [] clK (2 ^ 5+2 ^ 59) st=clS s b 0 0] (.leaf .normal (clS s b (foldN (clG g sh add b) 0 s.n) s.n)))
 |_=>none
def clB(Pd:Sh->Prop)(g:Sh->B4->Int)(sh:Nat->Sh)(add:Nat->Bool)(s:Sh)(b:B4)(i:Nat)(acc:Int):Dyn.Out:=
 .ite (decide ((i:Int)<s.n)) (.side [0<=(i:Int)/\(i:Int)<s.n] (.side [Pd (sh i),ctrSelf (sh i).l] (.leaf .normal (clS s b (foldF acc (g (sh i) b) (add i)) (W (i+1)))))) (.leaf (.exit 1) (clS s b acc i))
theorem cl_B(Pd:Sh->Prop)(g:Sh->B4->Int)(k:Int)(a b' c:P2)(r:Int)(l:Ctr)(n:Nat)(add:Nat->Bool)(sh:Nat->Sh)(b:B4)(i:Nat)(acc:Int) :
  (Dyn.lexec Tryz.prog (tabK Pd g) (clLp g sh add (mkSh k a b' c r l n add sh) b) 3 (unloopD (blkD Tryz.f88.body 1)) .leaf (clS (mkSh k a b' c r l n add sh) b acc i)).rl (keepR 73 [0,1,2] [] clK [])=clB Pd g sh add (mkSh k a b' c r l n add sh) b i acc:=by kernel_rfl
theorem cl_blocks:blocksL (bodyD Tryz.f88.body)=[(0,blkD Tryz.f88.body 0),(1,.loop (unloopD (blkD Tryz.f88.body 1))),(2,blkD Tryz.f88.body 2)]:=by kernel_rfl
theorem cl_b1:blocksL (unloopD (blkD Tryz.f88.body 1))=[(2,blkD Tryz.f88.body 2)]:=by kernel_rfl
theorem cl_loop{Pd:Sh->Prop}{g:Sh->B4->Int}(ih:∀x,Pd x->ClsOk x g)(k:Int)(a b' c:P2)(r:Int)(l:Ctr)(n:Nat)(add:Nat->Bool)(sh:Nat->Sh)(hn:n<=1000000000)(hP:∀i,i<n->Pd (sh i))(b:B4)(w0:Dyn.Base Tryz.prog)(s:Dyn.St)(o:Dyn.Out)
  (h:clLp g sh add (mkSh k a b' c r l n add sh) b 1 s=some o):Dyn.BlockSound Tryz.prog w0 1 (.loop (unloopD (blkD Tryz.f88.body 1))) s o:=by
 simp only[clLp,Option.some.injEq]at h
 subst h
 refine side_one λhS=>?_
 refine fold_block (fuel:=3) (tabK_ok ih) mo (lp:=clLp g sh add (mkSh k a b' c r l n add sh) b) (by rw[cl_b1];exact lpOk_cons (λs o h=>by cases h) lpOk_nil) (λi acc=>clS (mkSh k a b' c r l n add sh) b acc i) n (clG g sh add b) 0 (keepR 73 [0,1,2] [] clK []) (keepR_ent 73 _ _ _ _) (λi acc=>clB Pd g sh add (mkSh k a b' c r l n add sh) b i acc) (λi acc=>cl_B Pd g k a b' c r l n add sh b i acc) (λi hi=>?_) ?_ (hS▸keepA_ent 73 _ _ _ _ s)
 ·refine⟨λ_=>⟨⟨⟨by omega,by show(i:Int)<(n:Int);omega⟩,trivial⟩,⟨hP i hi,ctrSelf_ok _,trivial⟩,rfl,?_⟩,λhf=>?_⟩
  ·rw[Wn1 hi hn];exact Dyn.Fits.refl _
  ·rw[decide_eq_false_iff_not]at hf
   exact absurd (show(i:Int)<(n:Int)by omega) hf
 ·refine⟨λht=>?_,λ_=>⟨rfl,Dyn.Fits.refl _⟩⟩
  rw[decide_eq_true_eq]at ht
  exact absurd (show(n:Int)<(n:Int)from ht) (by omega)
def clO(g:Sh->B4->Int)(sh:Nat->Sh)(add:Nat->Bool)(s:Sh)(b:B4):Dyn.RO:=
 .ite (s.k==1) (.leaf (rI (discClass b s.a s.r)))
 (.ite (s.k==2) (.side [CtrB s.l,ctrSelf s.l] (.leaf (rI (polyClassF b s.l))))
 (.ite (s.k==3) (.leaf (rI (lineClass b s.a s.b s.r)))
 (.ite (s.k==4) (.leaf (rI (barClass b s.a s.b s.r)))
 (.ite (s.k==5) (.leaf (rI (ringClass b s.c s.a s.b s.r)))
 (.side [clS s b 0 0=clS s b 0 0] (.leaf (rI (foldN (clG g sh add b) 0 s.n))))))))
theorem cl_O(Pd:Sh->Prop)(g:Sh->B4->Int)(sh:Nat->Sh)(add:Nat->Bool)(s:Sh)(b:B4):(Dyn.dfun Tryz.prog (tabK Pd g) (clLp g sh add s b) 3 Tryz.f88 [dvS s,dvX b]).ro Tryz.prog Tryz.f88.results=clO g sh add s b:=by kernel_rfl
theorem cl_sat(g:Sh->B4->Int)(sh:Nat->Sh)(add:Nat->Bool)(s:Sh)(hl:CtrB s.l)(b:B4):(clO g sh add s b).sat λr=>Dyn.RVLe r (rI (classG g sh add s b)):=by
 unfold classG
 refine⟨λh=>?_,λh=>⟨λh2=>⟨⟨hl,ctrSelf_ok _,trivial⟩,?_⟩,λh2=>⟨λh3=>?_,λh3=>⟨λh4=>?_,λh4=>⟨λh5=>?_,λh5=>⟨⟨rfl,trivial⟩,?_⟩⟩⟩⟩⟩⟩
 ·rw[h];exact ro_leaf rfl
 ·rw[h,h2];exact ro_leaf rfl
 ·rw[h,h2,h3];exact ro_leaf rfl
 ·rw[h,h2,h3,h4];exact ro_leaf rfl
 ·rw[h,h2,h3,h4,h5];exact ro_leaf rfl
 ·rw[h,h2,h3,h4,h5];exact ro_leaf rfl
theorem class_lvl{Pd:Sh->Prop}{g:Sh->B4->Int}(ih:∀x,Pd x->ClsOk x g)(k:Int)(a b' c:P2)(r:Int)(l:Ctr)(n:Nat)(add:Nat->Bool)(sh:Nat->Sh)(hl:CtrB l)(hn:n<=1000000000)(hP:∀i,i<n->Pd (sh i))(b:B4) :
  Dyn.CallD Tryz.prog 88 [dvS (mkSh k a b' c r l n add sh),dvX b] (rI (classG g sh add (mkSh k a b' c r l n add sh) b)):=
 Dyn.dcontract (lp:=clLp g sh add (mkSh k a b' c r l n add sh) b) (fuel:=3) (tabK_ok ih) mo Tryz.func88 (by kernel_rfl) (c:=bodyD Tryz.f88.body) (by kernel_rfl)
  (λw0=>by rw[cl_blocks];exact lpOk_cons (λs o h=>by cases h) (lpOk_cons (cl_loop ih k a b' c r l n add sh hn hP b w0) (lpOk_cons (λs o h=>by cases h) lpOk_nil)))
  (by kernel_rfl) (cl_O Pd g sh add _ b) (cl_sat g sh add _ hl b)
def classF:Shp->B4->Int
 |.nil,_=>0
 |.mk k a b' c r l n add sub,b=>bif k==1 then discClass b a r else bif k==2 then polyClassF b l else bif k==3 then lineClass b a b' r else bif k==4 then barClass b a b' r else bif k==5 then ringClass b c a b' r else
  foldN (λi acc=>foldF acc (classF (sub i) b) (add i)) 0 n
noncomputable def classE(x:Sh)(b:B4):Int:=classF (ofSh x) b
theorem classE_eq(s:Shp)(b:B4):classE (toSh s) b=classF s b:=by unfold classE;rw[ofSh_toSh]
theorem classF_lvl(k:Int)(a b' c:P2)(r:Int)(l:Ctr)(n:Nat)(add:Nat->Bool)(sub:Nat->Shp)(b:B4):classF (.mk k a b' c r l n add sub) b=classG classE (λi=>toSh (sub i)) add (toSh (.mk k a b' c r l n add sub)) b:=by
 unfold classG clG
 simp only[classE_eq]
 rfl
theorem class_ok:∀s:Shp,ShB s->ClsOk (toSh s) classE:=by
 intro s
 induction s with
 |nil=>intro h;exact h.elim
 |mk k a b' c r l n add sub ih=>
  intro h b
  rw[classE_eq,classF_lvl]
  exact class_lvl (Pd:=λx=>∃i,i<n/\x=toSh (sub i)) (λx hx=>by
   obtain⟨i,hi,rfl⟩:=hx
   exact ih i (h.2.2 i hi)) k a b' c r l n add (λi=>toSh (sub i)) h.1 h.2.1 (λi hi=>⟨i,hi,rfl⟩) b
theorem class_all:∀x,PdS x->ClsOk x classE:=λx hx b=>by
 have k:=class_ok _ hx.1 b
 rw[show classE (toSh (ofSh x)) b=classE x b by unfold classE;rw[ofSh_toSh]]at k
 exact CallD_le (args:=dvS (toSh (ofSh x))::[dvX b]) ⟨SLe.dv hx.2,Dyn.DVLe.refl _,trivial⟩ k
noncomputable def figClassE(x:Sh)(b:B4):Int:=bif !(okE x)then 0 else classE x b
noncomputable def tdG:List Dyn.EntryD:=[(17,en1D (qAnd qS PdS) λx=>rB (okE x)),(88,en2D (qAnd qS PdS) qX λx b=>rI (classE x b))]
theorem tdG_ok:∀e∈tdG,Dyn.EntryDOk Tryz.prog e:=List.forall_mem_cons.2 ⟨en1D_ok (qAnd_ok qS_ok) λx h=>figOk_ok x h.1,List.forall_mem_cons.2 ⟨en2D_ok (qAnd_ok qS_ok) qX_ok λx b h _=>class_all x h.1 b,λ_ h=>by cases h⟩⟩
noncomputable def tabG:Dyn.Tabs:=Dyn.tabs tbF tdG noD noD
theorem tabG_ok:Dyn.TabsOk Tryz.prog tabG:=Dyn.tabs_ok tbF_ok tdG_ok
theorem figClass_ok(x:Sh)(h:PdS x)(b:B4):Dyn.CallD Tryz.prog 73 [dvS x,dvX b] (rI (figClassE x b)):=
 Dyn.dcontractV (lp:=Dyn.noLp) (fuel:=3) tabG_ok mo Tryz.func73 (by kernel_rfl) (c:=bodyD Tryz.f73.body) (by kernel_rfl) (λw0=>Dyn.noLp_ok _ w0) (by kernel_rfl) (by kernel_rfl) (show _=[PdS x,ctrSelf x.l,(!(okE x))=false->PdS x,(!(okE x))=false->ctrSelf x.l]by kernel_rfl) ⟨h,ctrSelf_ok _,λ_=>h,λ_=>ctrSelf_ok _,trivial⟩
def ShW:Shp->Prop
 |.nil=>False
 |.mk _ _ _ _ _ _ n _ sub=>∀i,i<n->ShW (sub i)
def smL(l:Ctr)(i:Nat)(_:Unit):Bool×Unit:=(!(decide ((l.m i:Int)>40)),())
def smP(g:Sh->Int->Bool)(sh:Nat->Sh)(deep:Int)(i:Nat)(_:Unit):Bool×Unit:=(g (sh i) (W (deep+1)),())
def smallG(g:Sh->Int->Bool)(sh:Nat->Sh)(s:Sh)(deep:Int):Bool:=
 bif bif bif decide ((s.n:Int)>12)then true else decide ((s.l.n:Int)>12)then true else decide (deep>12)then false else
 bif (runN (smL s.l) () s.l.n).1 then(runN (smP g sh deep) () s.n).1 else false
def tdSm(Pd:Sh->Prop)(g:Sh->Int->Bool):List Dyn.EntryD:=[(14,en2D (qAnd qS Pd) qI λx d=>rB (g x d))]
def smR:Dyn.St:=mkS 52 [(4,.k (vb false))] []
def smK0:List Nat:=[1,2,4,5]
def smK1:List Nat:=[1,2,4,6]
theorem sm_blocks:blocksL (bodyD Tryz.f14.body)=[(0,.loop (unloopD (blkD Tryz.f14.body 0))),(1,blkD Tryz.f14.body 1),(2,.loop (unloopD (blkD Tryz.f14.body 2))),(3,blkD Tryz.f14.body 3)]:=by kernel_rfl
theorem sm_b0:blocksL (unloopD (blkD Tryz.f14.body 0))=[(1,blkD Tryz.f14.body 1)]:=by kernel_rfl
theorem sm_b2:blocksL (unloopD (blkD Tryz.f14.body 2))=[(3,blkD Tryz.f14.body 3)]:=by kernel_rfl
def smBig(s:Sh)(deep:Int):Bool:=bif bif decide ((s.n:Int)>12)then true else decide ((s.l.n:Int)>12)then true else decide (deep>12)
def smallF:Shp->Int->Bool
 |.nil,_=>false
 |.mk _ _ _ _ _ l n _ sub,deep=>
  bif bif bif decide ((n:Int)>12)then true else decide ((l.n:Int)>12)then true else decide (deep>12)then false else
  bif (runN (smL l) () l.n).1 then(runN (λi (_:Unit)=>(smallF (sub i) (W (deep+1)),())) () n).1 else false
noncomputable def smallE(x:Sh)(d:Int):Bool:=smallF (ofSh x) d
theorem smallE_eq(s:Shp)(d:Int):smallE (toSh s) d=smallF s d:=by unfold smallE;rw[ofSh_toSh]
theorem smallF_lvl(k:Int)(a b c:P2)(r:Int)(l:Ctr)(n:Nat)(add:Nat->Bool)(sub:Nat->Shp)(d:Int):smallF (.mk k a b c r l n add sub) d=smallG smallE (λi=>toSh (sub i)) (toSh (.mk k a b c r l n add sub)) d:=by
 unfold smallG smP
 simp only[smallE_eq]
 rfl
def PdW(x:Sh):Prop:=ShW (ofSh x)/\SLe x (toSh (ofSh x))
theorem PdW_mk{s:Shp}(h:ShW s):PdW (toSh s):=by unfold PdW;rw[ofSh_toSh];exact⟨h,SLe.refl _⟩
theorem runN_all{α:Type}{g:Nat->α->Bool×α}{a:α}:∀{n:Nat},(runN g a n).1=true->∀k,k<n->∃b,runN g a k=(true,b)/\(g k b).1=true
 |0,_=>λk hk=>by omega
 |n+1,h=>λk hk=>by
  have hn:(runN g a n).1=true:=by
   cases hr:runN g a n with
   |mk q b=>cases q with
    |true=>rfl
    |false=>rw[runN_stop hr (Nat.le_succ n)]at h;cases h
  rcases Nat.lt_or_eq_of_le (Nat.le_of_lt_succ hk)with hlt|rfl
  ·exact runN_all hn k hlt
  ·cases hr:runN g a k with
   |mk q b=>
    rw[hr]at hn
    simp only at hn;subst hn
    exact⟨b,rfl,by rw[runN_go hr]at h;exact h⟩
theorem small_B:∀(s:Shp) (d:Int),smallF s d=true->ShB s:=by
 intro s
 induction s with
 |nil=>intro d h;cases h
 |mk k a b c r l n add sub ih=>
  intro d h
  unfold smallF at h
  by_cases h1:((n:Int)>12)
  ·rw[decide_eq_true h1]at h;cases h
  ·by_cases h2:((l.n:Int)>12)
   ·rw[decide_eq_true h2,decide_eq_false h1]at h;cases h
   ·by_cases h3:(d>12)
    ·rw[decide_eq_true h3,decide_eq_false h1,decide_eq_false h2]at h;cases h
    ·rw[decide_eq_false h1,decide_eq_false h2,decide_eq_false h3]at h
     simp only[cond_false]at h
     cases hl:(runN (smL l) () l.n).1 with
     |false=>rw[hl]at h;cases h
     |true=>
      rw[hl]at h
      simp only[cond_true]at h
      refine⟨⟨by omega,λi hi=>?_⟩,by omega,λi hi=>?_⟩
      ·obtain⟨_,_,hx⟩:=runN_all hl i hi
       unfold smL at hx
       simp only[Bool.not_eq_true',decide_eq_false_iff_not]at hx
       omega
      ·obtain⟨_,_,hx⟩:=runN_all h i hi
       exact ih i _ hx
end Go.Proofs.YtmekpbopoknigaaGreatDoor
namespace Go.Proofs.YtmekpbopoknigaaGreatDoor
open Go Go.RowKit
theorem sh32_eq(x:Int):sh32 x=x/4294967296:=by
 unfold sh32
 have:(2:Int) ^ min (Int.toNat 32) 64=4294967296:=by decide
 rw[this,Int.fdiv_eq_ediv_of_nonneg _ (by decide)]
theorem lo32_eq{x:Int}(h0:0<=x)(h1:x<18446744073709551616):lo32 x=x%4294967296:=by
 have e:(BitVec.ofInt 64 x &&& BitVec.ofInt 64 4294967295).toNat=x.toNat%4294967296:=by
  rw[BitVec.toNat_and]
  have a:(BitVec.ofInt 64 4294967295).toNat=2 ^ 32-1:=by decide
  have b:(BitVec.ofInt 64 x).toNat=x.toNat:=by
   rw[BitVec.toNat_ofInt]
   have:((2 ^ 64:Nat):Int)=18446744073709551616:=by decide
   rw[this,Int.emod_eq_of_lt h0 h1]
  rw[a,b,Nat.and_two_pow_sub_one_eq_mod]
 unfold lo32 u64
 rw[e,U_id (by omega) (by omega)]
 omega
theorem halves_mul(x y:Int):x*y=(x/4294967296*(y/4294967296))*18446744073709551616+(x/4294967296*(y%4294967296)+x%4294967296*(y/4294967296))*4294967296+x%4294967296*(y%4294967296):=by
 have a:=Int.emod_add_mul_ediv x 4294967296
 have b:=Int.emod_add_mul_ediv y 4294967296
 generalize x/4294967296=p at *
 generalize y/4294967296=q at *
 generalize x%4294967296=s at *
 generalize y%4294967296=t at *
 subst a b
 grind
theorem half_bd{x y:Int}(h0:0<=x)(h1:x<=4294967295)(h2:0<=y)(h3:y<=4294967295):0<=x*y/\x*y<=18446744065119617025:=by
 have a:=Int.mul_nonneg h0 h2
 have b:=(mul_bd (A:=4294967295) (B:=4294967295) (x:=x) (y:=y) (by omega) h1 (by omega) h3).2
 have e:(4294967295:Int)*4294967295=18446744065119617025:=by decide
 omega
structure In64(x:Int):Prop where
 lo:0<=x
 hi:x<18446744073709551616
theorem mulHi_eq{x y:Int}(hx:In64 x)(hy:In64 y):mulHi x y=x*y/18446744073709551616:=by
 obtain⟨x0,x1⟩:=hx;obtain⟨y0,y1⟩:=hy
 unfold mulHi
 rw[lo32_eq x0 x1,lo32_eq y0 y1,sh32_eq x,sh32_eq y]
 have e:=halves_mul x y
 have a:=half_bd (x:=x%4294967296) (y:=y%4294967296) (by omega) (by omega) (by omega) (by omega)
 have b:=half_bd (x:=x/4294967296) (y:=y%4294967296) (by omega) (by omega) (by omega) (by omega)
 have c:=half_bd (x:=x%4294967296) (y:=y/4294967296) (by omega) (by omega) (by omega) (by omega)
 have d:=half_bd (x:=x/4294967296) (y:=y/4294967296) (by omega) (by omega) (by omega) (by omega)
 rw[e]
 generalize x%4294967296*(y%4294967296)=A at *
 generalize x/4294967296*(y%4294967296)=B at *
 generalize x%4294967296*(y/4294967296)=C at *
 generalize x/4294967296*(y/4294967296)=D at *
 dsimp only
 rw[U_id (x:=A) (by omega) (by omega),U_id (x:=B) (by omega) (by omega),U_id (x:=C) (by omega) (by omega),U_id (x:=D) (by omega) (by omega),sh32_eq A]
 rw[U_id (x:=B+A/4294967296) (by omega) (by omega)]
 rw[lo32_eq (x:=B+A/4294967296) (by omega) (by omega),sh32_eq (B+A/4294967296)]
 rw[U_id (x:=(B+A/4294967296)%4294967296+C) (by omega) (by omega),sh32_eq ((B+A/4294967296)%4294967296+C)]
 rw[U_id (x:=D+(B+A/4294967296)/4294967296) (by omega) (by omega),U_id (by omega) (by omega)]
 omega
theorem wmul_eq{x y:Int}(hx:In64 x)(hy:In64 y):wmul x y=⟨x*y/18446744073709551616,x*y%18446744073709551616⟩:=by
 unfold wmul mulLo
 rw[mulHi_eq hx hy,U_eq]
theorem wabs_eq{v:Int}(h0 : -9223372036854775808<=v)(h1:v<=9223372036854775807):wabs v=(v.natAbs:Int):=by
 unfold wabs
 by_cases h:v<0
 ·rw[decide_eq_true h,bif_t,U_eq,U_eq];omega
 ·rw[decide_eq_false h,bif_f,U_eq];omega
theorem ucmp_eq(x y:Int):ucmp x y=if x<y then -1 else if x>y then 1 else 0:=by
 unfold ucmp
 simp only[bne_self_eq_false,bif_f]
 by_cases h:x<y
 ·rw[decide_eq_true h,bif_t,if_pos h]
 ·rw[decide_eq_false h,bif_f,if_neg h]
  by_cases h':x>y
  ·rw[decide_eq_true h',bif_t,if_pos h']
  ·rw[decide_eq_false h',bif_f,if_neg h']
theorem wcmp_le(m n:Int):wcmp ⟨m/18446744073709551616,m%18446744073709551616⟩ ⟨n/18446744073709551616,n%18446744073709551616⟩<=0↔m<=n:=by
 unfold wcmp
 dsimp only
 by_cases h:m/18446744073709551616=n/18446744073709551616
 ·have:(m/18446744073709551616 != n/18446744073709551616)=false:=by simp[h]
  rw[this,bif_f,ucmp_eq]
  split
  ·omega
  ·split<;>omega
 ·have:(m/18446744073709551616 != n/18446744073709551616)=true:=by simp[h]
  rw[this,bif_t,ucmp_eq]
  split
  ·omega
  ·split<;>omega
theorem natAbs_sq(v:Int):(v.natAbs:Int)*(v.natAbs:Int)=v*v:=by
 rcases Int.natAbs_eq v with h|h<;>grind
theorem wle{k x y:Int}(h0 : -9223372036854775808<=k)(h1:k<=9223372036854775807)(hx:In64 x)(hy:In64 y):decide (wcmp (wsq k) (wmul x y)<=0)=decide (k*k<=x*y):=by
 unfold wsq
 rw[wabs_eq h0 h1,wmul_eq ⟨by omega,by omega⟩ ⟨by omega,by omega⟩,wmul_eq hx hy,natAbs_sq]
 exact decide_eq_decide.2 (wcmp_le _ _)
theorem sum2s{x y z w:Int}(h1 : -2147483646<=x)(h2:x<=2147483646)(h3 : -2147483646<=y)(h4:y<=2147483646)(h5 : -2147483646<=z)(h6:z<=2147483646)(h7 : -2147483646<=w)(h8:w<=2147483646) :
  W (W (x*y)+W (z*w))=x*y+z*w/\W (W (x*y)-W (z*w))=x*y-z*w/\-9223372019674906632<=x*y+z*w/\x*y+z*w<=9223372019674906632/\-9223372019674906632<=x*y-z*w/\x*y-z*w<=9223372019674906632:=by
 have a:=mul_bd (A:=2147483646) (B:=2147483646) h1 h2 h3 h4
 have b:=mul_bd (A:=2147483646) (B:=2147483646) h5 h6 h7 h8
 have e:(2147483646:Int)*2147483646=4611686009837453316:=by decide
 rw[e]at a b
 rw[W_id (x:=x*y) (by omega) (by omega),W_id (x:=z*w) (by omega) (by omega),W_id (x:=x*y+z*w) (by omega) (by omega),W_id (x:=x*y-z*w) (by omega) (by omega)]
 omega
theorem df{u v:Int}(h1:In30 u)(h2:In30 v):W (u-v)=u-v/\-2147483646<=u-v/\u-v<=2147483646:=by
 obtain⟨a,b⟩:=h1;obtain⟨c,d⟩:=h2
 rw[W_id (by omega) (by omega)];omega
theorem cross_eq{o a b:P2}(ho:PR o)(ha:PR a)(hb:PR b):cross o a b=crossI o a b/\-9223372019674906632<=crossI o a b/\crossI o a b<=9223372019674906632:=by
 have p:=df ha.x ho.x;have q:=df hb.y ho.y;have s:=df ha.y ho.y;have t:=df hb.x ho.x
 unfold cross crossI
 rw[p.1,q.1,s.1,t.1]
 have e:=sum2s p.2.1 p.2.2 q.2.1 q.2.2 s.2.1 s.2.2 t.2.1 t.2.2
 exact⟨e.2.1,e.2.2.2.2⟩
theorem rDist_eq2{p q:P2}(hp:PR p)(hq:PR q):rDist p q=distI p q/\0<=distI p q/\distI p q<=9223372019674906632:=by
 have a:=df hp.x hq.x;have b:=df hp.y hq.y
 unfold rDist distI
 rw[a.1,b.1]
 have e:=sum2s a.2.1 a.2.2 a.2.1 a.2.2 b.2.1 b.2.2 b.2.1 b.2.2
 have h1:=sq_nn (p.x-q.x);have h2:=sq_nn (p.y-q.y)
 exact⟨e.1,by omega,e.2.2.2.1⟩
theorem dist2_eq{a c:P2}(ha:PR a)(hc:PR c):dist2 (W (c.x-a.x)) (W (c.y-a.y))=distI a c:=by
 have p:=df hc.x ha.x;have q:=df hc.y ha.y
 unfold dist2 distI
 rw[p.1,q.1,(sum2s p.2.1 p.2.2 p.2.1 p.2.2 q.2.1 q.2.2 q.2.1 q.2.2).1]
 grind
theorem along_eq{p a c:P2}(hp:PR p)(ha:PR a)(hc:PR c):W (W (W (p.x-a.x)*W (c.x-a.x))+W (W (p.y-a.y)*W (c.y-a.y)))=dotI a c p:=by
 have s:=df hc.x ha.x;have q:=df hc.y ha.y;have u:=df hp.x ha.x;have v:=df hp.y ha.y
 rw[s.1,q.1,u.1,v.1,(sum2s u.2.1 u.2.2 s.2.1 s.2.2 v.2.1 v.2.2 q.2.1 q.2.2).1]
 unfold dotI;grind
theorem rsq{r:Int}(h1:0<=r)(h2:r<=2147483648):W (r*r)=r*r/\0<=r*r/\r*r<=4611686018427387904:=by
 have a:=sq_bd (A:=2147483648) (x:=r) (by omega) h2
 have e:(2147483648:Int)*2147483648=4611686018427387904:=by decide
 rw[W_id (by omega) (by omega)];omega
theorem U64{x:Int}(h1:0<=x)(h2:x<=9223372036854775807):U x=x/\In64 (U x):=by
 have:U x=x:=U_id h1 (by omega)
 rw[this];exact⟨rfl,by omega,by omega⟩
def clear(p a c:P2)(r:Int):Bool:=decide (crossI a c p*crossI a c p<=r*r*distI a c)
theorem clear_eq{p a c:P2}{r:Int}(hp:PR p)(ha:PR a)(hc:PR c)(h1:0<=r)(h2:r<=2147483648) :
  decide (wcmp (wsq (cross a c p)) (wmul (U (square r)) (U (dist2 (W (c.x-a.x)) (W (c.y-a.y)))))<=0)=clear p a c r:=by
 have k:=cross_eq ha hc hp
 have d:=rDist_eq2 ha hc
 have s:=rsq h1 h2
 rw[k.1,dist2_eq ha hc,square_eq h1 h2]
 rw[wle (by omega) (by omega) (U64 (x:=r*r) (by omega) (by omega)).2 (U64 (x:=distI a c) (by omega) (by omega)).2,(U64 (x:=r*r) (by omega) (by omega)).1,(U64 (x:=distI a c) (by omega) (by omega)).1]
 rfl
end Go.Proofs.YtmekpbopoknigaaGreatDoor
namespace Go.Proofs.YtmekpbopoknigaaGreatDoor
open Go Go.RowKit
set_option maxRecDepth 100000
def all4(f:P2->Bool)(b:B4):Bool:=f ⟨b.x0,b.y0⟩&&f ⟨b.x1,b.y0⟩&&f ⟨b.x0,b.y1⟩&&f ⟨b.x1,b.y1⟩
theorem cnt4_sum(f:P2->Bool)(b:B4):cnt4 f b=(if f ⟨b.x0,b.y0⟩then 1 else 0)+(if f ⟨b.x1,b.y0⟩then 1 else 0)+(if f ⟨b.x0,b.y1⟩then 1 else 0)+(if f ⟨b.x1,b.y1⟩then 1 else 0):=by
 unfold cnt4
 cases f ⟨b.x0,b.y0⟩<;>cases f ⟨b.x1,b.y0⟩<;>cases f ⟨b.x0,b.y1⟩<;>cases f ⟨b.x1,b.y1⟩<;>decide
theorem cnt4_all(f:P2->Bool)(b:B4):(cnt4 f b==4)=all4 f b:=by
 rw[cnt4_sum];unfold all4
 cases f ⟨b.x0,b.y0⟩<;>cases f ⟨b.x1,b.y0⟩<;>cases f ⟨b.x0,b.y1⟩<;>cases f ⟨b.x1,b.y1⟩<;>rfl
theorem all4_congr{f g:P2->Bool}{b:B4}(hb:BR b)(h:∀q,PR q->f q=g q):all4 f b=all4 g b:=by
 unfold all4
 rw[h _ ⟨hb.x0,hb.y0⟩,h _ ⟨hb.x1,hb.y0⟩,h _ ⟨hb.x0,hb.y1⟩,h _ ⟨hb.x1,hb.y1⟩]
def same(a c:P2):Prop:=a.x=c.x/\a.y=c.y
instance(a c:P2):Decidable (same a c):=inferInstanceAs (Decidable (_/\_))
theorem ptEq_eq(a c:P2):ptEq a c=decide (same a c):=by
 unfold ptEq same
 by_cases h:a.x=c.x
 ·by_cases k:a.y=c.y
  ·simp[h,k]
  ·simp[h,k]
 ·simp[h]
theorem dist_pos(a c:P2):distI a c=0↔same a c:=by
 unfold distI same
 constructor
 ·intro h
  have h1:=sq_nn (a.x-c.x);have h2:=sq_nn (a.y-c.y)
  have e1:(a.x-c.x)*(a.x-c.x)=0:=by omega
  have e2:(a.y-c.y)*(a.y-c.y)=0:=by omega
  have:=Int.mul_eq_zero.1 e1;have:=Int.mul_eq_zero.1 e2
  omega
 ·rintro⟨h,k⟩;rw[h,k];simp
theorem dist_nn(a c:P2):0<=distI a c:=by
 unfold distI
 have h1:=sq_nn (a.x-c.x);have h2:=sq_nn (a.y-c.y);omega
theorem beside_eq{p a c:P2}{h:Int}(hp:PR p)(ha:PR a)(hc:PR c)(h1:0<=h)(h2:h<=2147483648) :
  beside p a c h=if clear p a c h=true then 0 else if crossI a c p>0 then 1 else -1:=by
 unfold beside
 dsimp only
 rw[clear_eq hp ha hc h1 h2,(cross_eq ha hc hp).1]
 cases clear p a c h
 ·by_cases k:crossI a c p>0
  ·simp[k]
  ·simp[k]
 ·simp
theorem past_eq{p a c:P2}(hp:PR p)(ha:PR a)(hc:PR c):past p a c=if dotI a c p<0 then -1 else if dotI a c p>distI a c then 1 else 0:=by
 unfold past
 dsimp only
 rw[along_eq hp ha hc,dist2_eq ha hc]
 by_cases k:dotI a c p<0
 ·simp[k]
 ·by_cases k':dotI a c p>distI a c
  ·simp[k,k']
  ·simp[k,k']
def barI(p a c:P2)(h:Int):Bool:=!(decide (same a c))&&decide (1<=h)&&clear p a c h&&decide (0<=dotI a c p)&&decide (dotI a c p<=distI a c)
theorem barHas_eq{p a c:P2}{h:Int}(hp:PR p)(ha:PR a)(hc:PR c)(h2:h<=2147483648):barHas p a c h=barI p a c h:=by
 unfold barHas barVoid barI
 rw[ptEq_eq]
 by_cases h1:h<1
 ·have:¬1<=h:=by omega
  simp[h1,this,orB_eq,andB_eq]
 ·rw[beside_eq hp ha hc (by omega) h2,past_eq hp ha hc]
  have:1<=h:=by omega
  simp only[h1,this,orB_eq,andB_eq,decide_true,decide_false,Bool.or_false,Bool.and_true]
  cases clear p a c h
  ·by_cases k:crossI a c p>0
   ·simp[k]
   ·simp[k]
  ·by_cases k:dotI a c p<0
   ·have:¬0<=dotI a c p:=by omega
    simp[k,this]
   ·by_cases k':dotI a c p>distI a c
    ·have:¬dotI a c p<=distI a c:=by omega
     simp[k,k',this]
    ·have k1:0<=dotI a c p:=by omega
     have k2:dotI a c p<=distI a c:=by omega
     simp[k,k',k1,k2]
end Go.Proofs.YtmekpbopoknigaaGreatDoor
namespace Go.Proofs.YtmekpbopoknigaaGreatDoor
open Go Go.RowKit Sym
set_option maxRecDepth 100000
theorem cnt4_lt(f:P2->Bool)(b:B4):decide (cnt4 f b<4) = !(all4 f b):=by
 rw[cnt4_sum];unfold all4
 cases f ⟨b.x0,b.y0⟩<;>cases f ⟨b.x1,b.y0⟩<;>cases f ⟨b.x0,b.y1⟩<;>cases f ⟨b.x1,b.y1⟩<;>rfl
def sepI(b:B4)(p q:P2):Bool:=decide (max p.x q.x<b.x0)||decide (min p.x q.x>b.x1)||decide (max p.y q.y<b.y0)||decide (min p.y q.y>b.y1)
def meetsI(b:B4)(p q:P2):Bool:=!(sepI b p q)&&(!(all4 (λc=>decide (crossI p q c>0)) b) && !(all4 (λc=>decide (crossI p q c<0)) b))
theorem meets_eq{b:B4}{p q:P2}(hb:BR b)(hp:PR p)(hq:PR q)(hx:b.x0<=b.x1)(hy:b.y0<=b.y1):meets b p q=meetsI b p q:=by
 have e1:all4 (λc=>decide (cross p q c>0)) b=all4 (λc=>decide (crossI p q c>0)) b:=all4_congr hb λc hc=>by rw[(cross_eq hp hq hc).1]
 have e2:all4 (λc=>decide (cross p q c<0)) b=all4 (λc=>decide (crossI p q c<0)) b:=all4_congr hb λc hc=>by rw[(cross_eq hp hq hc).1]
 have e3:emptyBx b=false:=by
  unfold emptyBx;rw[orB_eq,decide_eq_false (show ¬b.x0>b.x1 by omega),decide_eq_false (show ¬b.y0>b.y1 by omega)];rfl
 unfold meets meetsI sepI
 rw[cnt4_lt,cnt4_lt,e1,e2,e3]
 simp only[orB_eq,andB_eq,imax_eq,imin_eq,Bool.false_or]
 cases (decide (max p.x q.x<b.x0)||decide (min p.x q.x>b.x1)||decide (max p.y q.y<b.y0)||decide (min p.y q.y>b.y1))<;>rfl
def q0(b:B4):B4:=⟨spl b 0 b.x0,spl b 0 b.y0,spl b 0 (midX b),spl b 0 (midY b)⟩
def q1(b:B4):B4:=⟨spl b 0 (midX b),spl b 0 b.y0,spl b 0 b.x1,spl b 0 (midY b)⟩
def q2(b:B4):B4:=⟨spl b 0 b.x0,spl b 0 (midY b),spl b 0 (midX b),spl b 0 b.y1⟩
def q3(b:B4):B4:=⟨spl b 0 (midX b),spl b 0 (midY b),spl b 0 b.x1,spl b 0 b.y1⟩
structure Fits(b:B4):Prop where
 x0 : -536870912<=b.x0
 x:b.x0<=b.x1
 x1:b.x1<=536870912
 y0 : -536870912<=b.y0
 y:b.y0<=b.y1
 y1:b.y1<=536870912
theorem boxOk_iff(b:B4):boxOk b=true↔Fits b:=by
 unfold boxOk within
 simp only[andB_eq,Bool.and_eq_true,decide_eq_true_eq]
 constructor
 ·rintro⟨⟨⟨⟨⟨a,c⟩,d,e⟩,f,g⟩,h,i⟩,j,k⟩;exact⟨d,a,i,f,c,k⟩
 ·rintro⟨a,c,d,e,f,g⟩;exact⟨⟨⟨⟨⟨c,f⟩,by omega,by omega⟩,by omega,by omega⟩,by omega,by omega⟩,by omega,by omega⟩
theorem spl_of{b:B4}(hb:Fits b)(h:splOk b=true):(∀v,spl b 0 v=v)/\b.x0<midX b/\b.y0<midY b/\2*midX b=b.x0+b.x1/\2*midY b=b.y0+b.y1:=by
 obtain⟨a1,a2,a3,a4,a5,a6⟩:=hb
 have k:∀v,spl b 0 v=v:=λv=>by
  unfold splOk at h;unfold spl
  cases hq:boxOk b
  ·rw[hq]at h;cases h
  ·rw[hq]at h
   simp only[Bool.not_true,bif_f]at h ⊢
   cases ho:orB (orB (orB (W (b.x1-b.x0)==0) (W (b.y1-b.y0)==0)) ((W (b.x1-b.x0)).tmod 2 != 0)) ((W (b.y1-b.y0)).tmod 2 != 0)
   ·rfl
   ·rw[ho]at h;cases h
 refine⟨k,?_⟩
 unfold splOk at h
 rw[(boxOk_iff b).2 ⟨a1,a2,a3,a4,a5,a6⟩]at h
 rw[W_id (x:=b.x1-b.x0) (by omega) (by omega),W_id (x:=b.y1-b.y0) (by omega) (by omega)]at h
 simp only[Bool.not_true,bif_f,orB_eq]at h
 have h':¬(((b.x1-b.x0=0\/b.y1-b.y0=0)\/(b.x1-b.x0).tmod 2≠0)\/(b.y1-b.y0).tmod 2≠0):=by
  intro q
  have:(b.x1-b.x0==0||b.y1-b.y0==0||(b.x1-b.x0).tmod 2 != 0||(b.y1-b.y0).tmod 2 != 0)=true:=by
   simp only[Bool.or_eq_true,beq_iff_eq,bne_iff_ne];exact q
  rw[this]at h;cases h
 rw[Int.tmod_eq_emod_of_nonneg (by omega),Int.tmod_eq_emod_of_nonneg (by omega)]at h'
 unfold midX midY
 rw[W_id (x:=b.x1-b.x0) (by omega) (by omega),W_id (x:=b.y1-b.y0) (by omega) (by omega),Int.tdiv_eq_ediv_of_nonneg (by omega),Int.tdiv_eq_ediv_of_nonneg (by omega),
  W_id (x:=(b.x1-b.x0)/2) (by omega) (by omega),W_id (x:=(b.y1-b.y0)/2) (by omega) (by omega),W_id (by omega) (by omega),W_id (by omega) (by omega)]
 omega
def lineI(p a c:P2)(r:Int):Bool:=
 if dotI a c p<=0 then decide (distI p a<=r*r)else if dotI a c p>=distI a c then decide (distI p c<=r*r)else clear p a c r
theorem lineHas_eq{p a c:P2}{r:Int}(hp:PR p)(ha:PR a)(hc:PR c)(h1:1<=r)(h2:r<=2147483648):lineHas p a c r=lineI p a c r:=by
 unfold lineHas lineI
 rw[decide_eq_false (show ¬r<1 by omega),bif_f]
 dsimp only
 rw[along_eq hp ha hc,dist2_eq ha hc]
 have e:=clear_eq hp ha hc (r:=r) (by omega) h2
 rw[dist2_eq ha hc]at e
 rw[e,square_eq (by omega) h2]
 have n1:=near_eq (b:=⟨a.x,a.y,a.x,a.y⟩) ⟨ha.x,ha.y,ha.x,ha.y⟩ hp
 have n2:=near_eq (b:=⟨c.x,c.y,c.x,c.y⟩) ⟨hc.x,hc.y,hc.x,hc.y⟩ hp
 rw[n1.1,n2.1,dist_near,dist_near]
 by_cases k:dotI a c p<=0
 ·simp[k]
 ·by_cases k':dotI a c p>=distI a c
  ·simp[k,k']
  ·simp[k,k']
def any4(f:P2->Bool)(b:B4):Bool:=f ⟨b.x0,b.y0⟩||f ⟨b.x1,b.y0⟩||f ⟨b.x0,b.y1⟩||f ⟨b.x1,b.y1⟩
theorem cnt4_any(f:P2->Bool)(b:B4):decide (cnt4 f b>0)=any4 f b:=by
 rw[cnt4_sum];unfold any4
 cases f ⟨b.x0,b.y0⟩<;>cases f ⟨b.x1,b.y0⟩<;>cases f ⟨b.x0,b.y1⟩<;>cases f ⟨b.x1,b.y1⟩<;>rfl
theorem cnt4_none(f:P2->Bool)(b:B4):(cnt4 f b==0) = !(any4 f b):=by
 rw[cnt4_sum];unfold any4
 cases f ⟨b.x0,b.y0⟩<;>cases f ⟨b.x1,b.y0⟩<;>cases f ⟨b.x0,b.y1⟩<;>cases f ⟨b.x1,b.y1⟩<;>rfl
theorem any4_congr{f g:P2->Bool}{b:B4}(hb:BR b)(h:∀q,PR q->f q=g q):any4 f b=any4 g b:=by
 unfold any4
 rw[h _ ⟨hb.x0,hb.y0⟩,h _ ⟨hb.x1,hb.y0⟩,h _ ⟨hb.x0,hb.y1⟩,h _ ⟨hb.x1,hb.y1⟩]
def lineCl(b:B4)(a c:P2)(r:Int):Int:=
 if all4 (λq=>lineI q a c r) b then 2 else
 if any4 (λq=>lineI q a c r) b||decide (nearI b a<=r*r)||decide (nearI b c<=r*r)||meetsI b a c then 1 else 0
theorem lineClass_eq{b:B4}{a c:P2}{r:Int}(hb:BR b)(ha:PR a)(hc:PR c)(hx:b.x0<=b.x1)(hy:b.y0<=b.y1)(h1:1<=r)(h2:r<=2147483648):lineClass b a c r=lineCl b a c r:=by
 unfold lineClass lineCl
 have hh:boxHas b ⟨b.x0,b.y0⟩=true:=(boxHas_eq _ _).2 ⟨by simp,hx,by simp,hy⟩
 rw[hh,decide_eq_false (show ¬r<1 by omega)]
 have e1:all4 (λp=>lineHas p a c r) b=all4 (λp=>lineI p a c r) b:=all4_congr hb λq hq=>lineHas_eq hq ha hc h1 h2
 have e2:any4 (λp=>lineHas p a c r) b=any4 (λp=>lineI p a c r) b:=any4_congr hb λq hq=>lineHas_eq hq ha hc h1 h2
 dsimp only
 rw[cnt4_all,cnt4_any,e1,e2,square_eq (by omega) h2,(near_eq hb ha).1,(near_eq hb hc).1,meets_eq hb ha hc hx hy]
 simp only[orB_eq,Bool.not_true,Bool.or_false,bif_f]
 cases all4 (λp=>lineI p a c r) b
 ·cases (any4 (λp=>lineI p a c r) b||decide (nearI b a<=r*r)||decide (nearI b c<=r*r)||meetsI b a c)<;>rfl
 ·rfl
def isC(b:B4)(c:P2):Prop:=(c.x=b.x0\/c.x=b.x1)/\(c.y=b.y0\/c.y=b.y1)
theorem all4_iff{f:P2->Bool}{b:B4}:all4 f b=true↔∀c,isC b c->f c=true:=by
 unfold all4
 simp only[Bool.and_eq_true]
 constructor
 ·rintro⟨⟨⟨h1,h2⟩,h3⟩,h4⟩ ⟨x,y⟩ ⟨hx,hy⟩
  dsimp only at hx hy
  rcases hx with rfl|rfl<;>rcases hy with rfl|rfl<;>assumption
 ·intro h
  exact⟨⟨⟨h _ ⟨.inl rfl,.inl rfl⟩,h _ ⟨.inr rfl,.inl rfl⟩⟩,h _ ⟨.inl rfl,.inr rfl⟩⟩,h _ ⟨.inr rfl,.inr rfl⟩⟩
theorem any4_iff{f:P2->Bool}{b:B4}:any4 f b=true↔∃c,isC b c/\f c=true:=by
 unfold any4
 simp only[Bool.or_eq_true]
 constructor
 ·rintro(((h|h)|h)|h)
  ·exact⟨_,⟨.inl rfl,.inl rfl⟩,h⟩
  ·exact⟨_,⟨.inr rfl,.inl rfl⟩,h⟩
  ·exact⟨_,⟨.inl rfl,.inr rfl⟩,h⟩
  ·exact⟨_,⟨.inr rfl,.inr rfl⟩,h⟩
 ·rintro⟨⟨x,y⟩,⟨hx,hy⟩,h⟩
  dsimp only at hx hy
  rcases hx with rfl|rfl<;>rcases hy with rfl|rfl<;>simp[h]
theorem isC_has{b:B4}{c:P2}(hx:b.x0<=b.x1)(hy:b.y0<=b.y1)(h:isC b c):hasI b c:=by
 obtain⟨h1,h2⟩:=h
 exact⟨by omega,by omega,by omega,by omega⟩
theorem corner_ge{b:B4}{q:P2}(u v:Int)(h:hasI b q):∃c,isC b c/\u*q.x+v*q.y<=u*c.x+v*c.y:=by
 obtain⟨h1,h2,h3,h4⟩:=h
 have one:∀u x lo hi:Int,lo<=x->x<=hi->u*x<=u*lo\/u*x<=u*hi:=λu x lo hi a c=>by
  rcases Int.le_total 0 u with k|k
  ·right;exact Int.mul_le_mul_of_nonneg_left c k
  ·left
   have:=Int.mul_nonneg (show 0<=-u by omega) (show 0<=x-lo by omega)
   have e : -u*(x-lo)=u*lo-u*x:=by grind
   omega
 rcases one u q.x b.x0 b.x1 h1 h2 with k|k<;>rcases one v q.y b.y0 b.y1 h3 h4 with k'|k'
 ·exact⟨⟨b.x0,b.y0⟩,⟨.inl rfl,.inl rfl⟩,by dsimp only;omega⟩
 ·exact⟨⟨b.x0,b.y1⟩,⟨.inl rfl,.inr rfl⟩,by dsimp only;omega⟩
 ·exact⟨⟨b.x1,b.y0⟩,⟨.inr rfl,.inl rfl⟩,by dsimp only;omega⟩
 ·exact⟨⟨b.x1,b.y1⟩,⟨.inr rfl,.inr rfl⟩,by dsimp only;omega⟩
theorem cross_lin(a c p:P2):crossI a c p = -(c.y-a.y)*p.x+(c.x-a.x)*p.y+((c.y-a.y)*a.x-(c.x-a.x)*a.y):=by unfold crossI;grind
theorem cross_ge{b:B4}{q:P2}(a c:P2)(h:hasI b q):∃k,isC b k/\crossI a c q<=crossI a c k:=by
 obtain⟨k,hk,hl⟩:=corner_ge (-(c.y-a.y)) (c.x-a.x) h
 exact⟨k,hk,by rw[cross_lin,cross_lin];omega⟩
theorem cross_le{b:B4}{q:P2}(a c:P2)(h:hasI b q):∃k,isC b k/\crossI a c k<=crossI a c q:=by
 obtain⟨k,hk,hl⟩:=corner_ge (c.y-a.y) (-(c.x-a.x)) h
 refine⟨k,hk,?_⟩
 rw[cross_lin,cross_lin a c q]
 have e1 : -(c.y-a.y)*q.x = -((c.y-a.y)*q.x):=by grind
 have e2 : -(c.x-a.x)*q.y = -((c.x-a.x)*q.y):=by grind
 have e3 : -(c.y-a.y)*k.x = -((c.y-a.y)*k.x):=by grind
 have e4 : -(c.x-a.x)*k.y = -((c.x-a.x)*k.y):=by grind
 rw[e1,e3];rw[e2,e4]at hl;omega
theorem lagrange(a c p:P2):distI a c*distI p a=dotI a c p*dotI a c p+crossI a c p*crossI a c p:=by
 unfold distI dotI crossI;grind
theorem lagrange2(a c p:P2):distI a c*distI p c=(dotI a c p-distI a c)*(dotI a c p-distI a c)+crossI a c p*crossI a c p:=by
 unfold distI dotI crossI;grind
theorem pt_BR{p:P2}(h:PR p):BR ⟨p.x,p.y,p.x,p.y⟩:=⟨h.x,h.y,h.x,h.y⟩
theorem discHas_eq{p c:P2}{r:Int}(hp:PR p)(hc:PR c)(h1:1<=r)(h2:r<=2147483648):discHas p c r=decide (distI p c<=r*r):=by
 unfold discHas
 rw[decide_eq_false (show ¬r<1 by omega),bif_f,(near_eq (pt_BR hc) hp).1,dist_near,square_eq (by omega) h2]
theorem discClass_eq{b:B4}{c:P2}{r:Int}(hb:BR b)(hc:PR c)(hx:b.x0<=b.x1)(hy:b.y0<=b.y1)(h1:1<=r)(h2:r<=2147483648) :
  discClass b c r=if nearI b c>r*r then 0 else if mostI b c<=r*r then 2 else 1:=by
 unfold discClass
 have hh:boxHas b ⟨b.x0,b.y0⟩=true:=(boxHas_eq _ _).2 ⟨by simp,hx,by simp,hy⟩
 rw[decide_eq_false (show ¬r<1 by omega),hh,(near_eq hb hc).1,(most_eq hb hc).1,square_eq (by omega) h2]
 show(bif decide (nearI b c>r*r)then 0 else bif decide (mostI b c<=r*r)then 2 else 1)=_
 by_cases k:nearI b c>r*r
 ·rw[decide_eq_true k,if_pos k];rfl
 ·rw[decide_eq_false k,if_neg k,bif_f]
  by_cases k':mostI b c<=r*r
  ·rw[decide_eq_true k',if_pos k'];rfl
  ·rw[decide_eq_false k',if_neg k'];rfl
theorem most_corner{b:B4}{p:P2}(hx:b.x0<=b.x1)(hy:b.y0<=b.y1):mostI b p=max (max (distI ⟨b.x0,b.y0⟩ p) (distI ⟨b.x1,b.y0⟩ p)) (max (distI ⟨b.x0,b.y1⟩ p) (distI ⟨b.x1,b.y1⟩ p)):=by
 have e:∀u lo hi:Int,lo<=hi->reachI u lo hi*reachI u lo hi=max ((lo-u)*(lo-u)) ((hi-u)*(hi-u)):=λu lo hi h=>by
  have h5:(reachI u lo hi = -(lo-u)/\hi-u<=-(lo-u)/\lo-u<=hi-u)\/(reachI u lo hi=hi-u/\-(hi-u)<=lo-u/\lo-u<=hi-u):=by unfold reachI;omega
  rcases h5 with⟨h6,h7,h8⟩|⟨h6,h7,h8⟩
  ·have:=sq_le (x:=hi-u) (y:=-(lo-u)) (by omega) h7
   have e : -(lo-u) * -(lo-u)=(lo-u)*(lo-u):=by grind
   rw[h6,e];rw[e]at this;omega
  ·have:=sq_le h7 h8
   rw[h6];omega
 unfold distI mostI
 dsimp only
 rw[e _ _ _ hx,e _ _ _ hy]
 omega
def nearest(b:B4)(p:P2):P2:=⟨min (max p.x b.x0) b.x1,min (max p.y b.y0) b.y1⟩
theorem near_nearest{b:B4}{p:P2}(hx:b.x0<=b.x1)(hy:b.y0<=b.y1):nearI b p=distI (nearest b p) p:=by
 have e:∀u lo hi:Int,lo<=hi->gapI u lo hi*gapI u lo hi=(min (max u lo) hi-u)*(min (max u lo) hi-u):=λu lo hi h=>by
  have:gapI u lo hi=min (max u lo) hi-u\/gapI u lo hi = -(min (max u lo) hi-u):=by unfold gapI;split<;>omega
  rcases this with h|h<;>rw[h]
  grind
 unfold distI nearI nearest
 dsimp only
 rw[e _ _ _ hx,e _ _ _ hy]
theorem PR_of_has{b:B4}{p:P2}(hb:BR b)(h:hasI b p):PR p:=by
 obtain⟨⟨a1,a2⟩,⟨a3,a4⟩,⟨a5,a6⟩,a7,a8⟩:=hb
 obtain⟨h1,h2,h3,h4⟩:=h
 exact⟨⟨by omega,by omega⟩,⟨by omega,by omega⟩⟩
structure Seg(p a c:P2)(R m n:Int):Prop where
 n0:0<n
 m0:0<=m
 mn:m<=n
 d:(n*(p.x-a.x)-m*(c.x-a.x))*(n*(p.x-a.x)-m*(c.x-a.x))+(n*(p.y-a.y)-m*(c.y-a.y))*(n*(p.y-a.y)-m*(c.y-a.y))<=n*n*R
def OnS(p a c:P2)(R:Int):Prop:=∃m n,Seg p a c R m n
theorem sq_pos{n:Int}(h:0<n):0<n*n:=Int.mul_pos h h
theorem seg_norm(p a c:P2)(m n:Int):(n*(p.x-a.x)-m*(c.x-a.x))*(n*(p.x-a.x)-m*(c.x-a.x))+(n*(p.y-a.y)-m*(c.y-a.y))*(n*(p.y-a.y)-m*(c.y-a.y))
  = n*n*distI p a-2*(n*m*dotI a c p)+m*m*distI a c:=by unfold distI dotI;grind
theorem lineI_iff{p a c:P2}{r:Int}:lineI p a c r=true↔OnS p a c (r*r):=by
 have hL:=dist_nn a c
 have l1:=lagrange a c p
 have l2:=lagrange2 a c p
 generalize hR:r*r=R
 have hRn:0<=R:=hR▸sq_nn r
 unfold lineI clear
 rw[hR]
 constructor
 ·intro h
  by_cases k:dotI a c p<=0
  ·rw[if_pos k,decide_eq_true_eq]at h
   exact⟨0,1,by decide,by decide,by decide,by rw[seg_norm];omega⟩
  ·rw[if_neg k]at h
   by_cases k':dotI a c p>=distI a c
   ·rw[if_pos k',decide_eq_true_eq]at h
    refine⟨1,1,by decide,by decide,by decide,?_⟩
    have:(1*(p.x-a.x)-1*(c.x-a.x))*(1*(p.x-a.x)-1*(c.x-a.x))+(1*(p.y-a.y)-1*(c.y-a.y))*(1*(p.y-a.y)-1*(c.y-a.y))=distI p c:=by unfold distI;grind
    omega
   ·rw[if_neg k',decide_eq_true_eq]at h
    refine⟨dotI a c p,distI a c,by omega,by omega,by omega,?_⟩
    rw[seg_norm]
    have g:=Int.mul_le_mul_of_nonneg_left h hL
    clear l2 k k' h
    generalize dotI a c p=T at *
    generalize distI a c=L at *
    generalize crossI a c p=K at *
    generalize distI p a=A at *
    have e1:L*L*A=L*(T*T+K*K):=by rw[←l1];grind
    have e2:L*(T*T+K*K)-2*(L*T*T)+T*T*L=L*(K*K):=by grind
    have e3:L*L*R=L*(R*L):=by grind
    rw[e1,e2,e3];exact g
 ·rintro⟨m,n,n0,m0,mn,h⟩
  rw[seg_norm]at h
  have hn:=sq_pos n0
  by_cases k:dotI a c p<=0
  ·rw[if_pos k,decide_eq_true_eq]
   have e1:=Int.mul_nonneg (Int.mul_nonneg (show 0<=n by omega) m0) (show 0<=-dotI a c p by omega)
   have e2:=Int.mul_nonneg (Int.mul_nonneg m0 m0) hL
   have e3:n*m * -dotI a c p = -(n*m*dotI a c p):=by grind
   exact Int.le_of_mul_le_mul_left (a:=n*n) (by omega) hn
  ·rw[if_neg k]
   by_cases k':dotI a c p>=distI a c
   ·rw[if_pos k',decide_eq_true_eq]
    have e0:distI p c=distI p a-2*dotI a c p+distI a c:=by unfold distI dotI;grind
    have e1:=Int.mul_nonneg (Int.mul_nonneg (show 0<=n by omega) (show 0<=n-m by omega)) (show 0<=dotI a c p-distI a c by omega)
    have e2:=Int.mul_nonneg (Int.mul_nonneg (show 0<=n-m by omega) (show 0<=n-m by omega)) hL
    refine Int.le_of_mul_le_mul_left (a:=n*n) ?_ hn
    rw[e0]
    generalize distI p a=A at *
    generalize dotI a c p=T at *
    generalize distI a c=L at *
    grind
   ·rw[if_neg k',decide_eq_true_eq]
    have e1:=Int.mul_le_mul_of_nonneg_left h hL
    have e2:=sq_nn (n*dotI a c p-m*distI a c)
    refine Int.le_of_mul_le_mul_left (a:=n*n) ?_ hn
    generalize dotI a c p=T at *
    generalize distI a c=L at *
    generalize crossI a c p=K at *
    generalize distI p a=A at *
    have e3:L*(n*n*A-2*(n*m*T)+m*m*L)=n*n*(L*A)-2*(n*m*(T*L))+m*m*(L*L):=by grind
    rw[e3,l1]at e1
    have e4:n*n*(T*T+K*K)-2*(n*m*(T*L))+m*m*(L*L)=(n*T-m*L)*(n*T-m*L)+n*n*(K*K):=by grind
    have e5:L*(n*n*R)=n*n*(R*L):=by grind
    rw[e4,e5]at e1
    omega
def circX(i:Int):Int:=
 bif decide (i=((0:Nat):Int))then 5 else bif decide (i=((1:Nat):Int))then 4 else bif decide (i=((2:Nat):Int))then 3 else bif decide (i=((3:Nat):Int))then 0 else bif decide (i=((4:Nat):Int))then -3 else bif decide (i=((5:Nat):Int))then -4 else
 bif decide (i=((6:Nat):Int))then -5 else bif decide (i=((7:Nat):Int))then -4 else bif decide (i=((8:Nat):Int))then -3 else bif decide (i=((9:Nat):Int))then 0 else bif decide (i=((10:Nat):Int))then 3 else 4
def circY(i:Int):Int:=
 bif decide (i=((0:Nat):Int))then 0 else bif decide (i=((1:Nat):Int))then 3 else bif decide (i=((2:Nat):Int))then 4 else bif decide (i=((3:Nat):Int))then 5 else bif decide (i=((4:Nat):Int))then 4 else bif decide (i=((5:Nat):Int))then 3 else
 bif decide (i=((6:Nat):Int))then 0 else bif decide (i=((7:Nat):Int))then -3 else bif decide (i=((8:Nat):Int))then -4 else bif decide (i=((9:Nat):Int))then -5 else bif decide (i=((10:Nat):Int))then -4 else -3
def arcI(f:Int):Int:=(band f 255).tmod 12
def arcK0(s:Int):Int:=W (W ((U s).tmod 20000000)+1)
def arcK1(s:Int):Int:=W (band (arcK0 s) 3+1)
def arcC0(c:P2):P2:=lClose c 400000000
def arcC1(c:P2):P2:=lClose (arcC0 c) 15
def arcC(c:P2)(sm:Bool):P2:=⟨bif sm then(arcC1 c).x else(arcC0 c).x,bif sm then(arcC1 c).y else(arcC0 c).y⟩
def arcAt(c:P2)(f s:Int)(sm:Bool):P2:=
 ⟨bif sm then W ((arcC1 c).x+W (arcK1 s*circX (arcI f)))else W ((arcC0 c).x+W (arcK0 s*circX (arcI f))),bif sm then W ((arcC1 c).y+W (arcK1 s*circY (arcI f)))else W ((arcC0 c).y+W (arcK0 s*circY (arcI f)))⟩
theorem band255(x:Int):0<=band x 255/\band x 255<=255:=by
 have h:(BitVec.ofInt 64 x &&& BitVec.ofInt 64 255).toNat<=255:=by
  rw[BitVec.toNat_and]
  exact Nat.le_trans Nat.and_le_right (by decide)
 unfold band
 rw[W_id (by omega) (by omega)]
 omega
theorem arcI_bd(f:Int):0<=arcI f/\arcI f<12:=by
 have a:=band255 f
 have b:=Int.tmod_nonneg (a:=band f 255) 12 a.1
 have c:=(tmod_bd (band f 255) (n:=12) (by decide)).2
 unfold arcI;omega
def arcIx(f:Int):Prop:=0<=arcI f/\arcI f<((12:Nat):Int)
theorem n16:W (15+1)≠0:=by decide
theorem n4e8:W (400000000+1)≠0:=by decide
theorem arc_ok(c:P2)(f t s:Int)(sm:Bool):CallOk Tryz.prog 32 [pt c,vi f,vi t,vi s,vb sm] (.tuple ⟨[pt (arcC c sm),pt (arcAt c f s sm),pt (arcAt c t s sm)]⟩):=
 fnOkS (fuel:=16) (tbOf_ok tbA_ok) mo Tryz.func32 (by kernel_rfl) (by kernel_rfl) (by kernel_rfl)
  (show _=[arcIx f,arcIx t,W (400000000+1)≠0,sm=true->W (15+1)≠0]by kernel_rfl) ⟨arcI_bd f,arcI_bd t,n4e8,λ_=>n16,trivial⟩
structure Circ(u:P2):Prop where
 x : -5<=u.x/\u.x<=5
 y : -5<=u.y/\u.y<=5
 n:u.x*u.x+u.y*u.y=25
def circ(f:Int):P2:=⟨circX (arcI f),circY (arcI f)⟩
theorem circ_ok(f:Int):Circ (circ f):=by
 have h:=arcI_bd f
 have:arcI f=0\/arcI f=1\/arcI f=2\/arcI f=3\/arcI f=4\/arcI f=5\/arcI f=6\/arcI f=7\/arcI f=8\/arcI f=9\/arcI f=10\/arcI f=11:=by omega
 unfold circ
 rcases this with h|h|h|h|h|h|h|h|h|h|h|h<;>rw[h]<;>exact⟨by decide,by decide,by decide⟩
theorem arcK0_bd(s:Int):1<=arcK0 s/\arcK0 s<=20000000:=by
 have h0:0<=U s:=by rw[U_eq];omega
 have a:=Int.tmod_nonneg (a:=U s) 20000000 h0
 have b:=(tmod_bd (U s) (n:=20000000) (by decide)).2
 unfold arcK0
 rw[W_id (x:=(U s).tmod 20000000) (by omega) (by omega),W_id (by omega) (by omega)];omega
theorem arcK1_bd(s:Int):1<=arcK1 s/\arcK1 s<=4:=by
 have a:=band3 (arcK0 s)
 unfold arcK1;rw[W_id (by omega) (by omega)];omega
def arcK(s:Int)(sm:Bool):Int:=bif sm then arcK1 s else arcK0 s
theorem arcK_bd(s:Int)(sm:Bool):1<=arcK s sm/\arcK s sm<=20000000:=by
 have a:=arcK0_bd s;have b:=arcK1_bd s
 cases sm
 ·exact a
 ·exact⟨b.1,by show arcK1 s<=_;omega⟩
theorem arcC_r(c:P2)(sm:Bool):(-400000000<=(arcC c sm).x/\(arcC c sm).x<=400000000)/\(-400000000<=(arcC c sm).y/\(arcC c sm).y<=400000000):=by
 have a:=lClose_r c (n:=400000000) (by decide) (by decide)
 have b:=lClose_r (arcC0 c) (n:=15) (by decide) (by decide)
 cases sm
 ·exact a
 ·show(_<=(arcC1 c).x/\(arcC1 c).x<=_)/\(_<=(arcC1 c).y/\(arcC1 c).y<=_)
  unfold arcC1;omega
theorem arcC_s(c:P2):(-15<=(arcC c true).x/\(arcC c true).x<=15)/\(-15<=(arcC c true).y/\(arcC c true).y<=15):=lClose_r (arcC0 c) (n:=15) (by decide) (by decide)
def onC(c:P2)(k:Int)(u:P2):P2:=⟨c.x+k*u.x,c.y+k*u.y⟩
theorem arcAt_eq(c:P2)(f s:Int)(sm:Bool):arcAt c f s sm=onC (arcC c sm) (arcK s sm) (circ f):=by
 have h:=circ_ok f
 have kk:=arcK_bd s sm
 have cc:=arcC_r c sm
 have x:=mul_bd (A:=20000000) (B:=5) (x:=arcK s sm) (y:=(circ f).x) (by omega) (by omega) h.x.1 h.x.2
 have y:=mul_bd (A:=20000000) (B:=5) (x:=arcK s sm) (y:=(circ f).y) (by omega) (by omega) h.y.1 h.y.2
 have e:arcAt c f s sm=⟨W ((arcC c sm).x+W (arcK s sm*(circ f).x)),W ((arcC c sm).y+W (arcK s sm*(circ f).y))⟩:=by cases sm<;>rfl
 rw[e,W_id (x:=arcK s sm*(circ f).x) (by omega) (by omega),W_id (x:=arcK s sm*(circ f).y) (by omega) (by omega),W_id (by omega) (by omega),W_id (by omega) (by omega)]
 rfl
theorem onC_r{c:P2}{k:Int}{u:P2}(hc:(-400000000<=c.x/\c.x<=400000000)/\(-400000000<=c.y/\c.y<=400000000))(hk:1<=k/\k<=20000000)(hu:Circ u):PR (onC c k u)/\distI (onC c k u) c=25*(k*k):=by
 have x:=mul_bd (A:=20000000) (B:=5) (x:=k) (y:=u.x) (by omega) (by omega) hu.x.1 hu.x.2
 have y:=mul_bd (A:=20000000) (B:=5) (x:=k) (y:=u.y) (by omega) (by omega) hu.y.1 hu.y.2
 refine⟨⟨⟨by unfold onC;dsimp only;omega,by unfold onC;dsimp only;omega⟩,⟨by unfold onC;dsimp only;omega,by unfold onC;dsimp only;omega⟩⟩,?_⟩
 have e:distI (onC c k u) c=k*k*(u.x*u.x+u.y*u.y):=by unfold distI onC;dsimp only;grind
 rw[e,hu.n];omega
def outI(d rr r:Int):Bool:=decide (rr-r*r-d<=0\/(rr-r*r-d)*(rr-r*r-d)<=4*d*(r*r))
def insI(d rr r:Int):Bool:=decide (d-rr-r*r<=0\/(d-rr-r*r)*(d-rr-r*r)<=4*rr*(r*r))
theorem outside_eq{d rr r:Int}(h0:0<=d)(h1:d<=4000000000000000000)(h2:0<=rr)(h3:rr<=4000000000000000000)(h4:1<=r)(h5:r<=1073741824):outside d rr r=outI d rr r:=by
 have s:=sq_bd (A:=1073741824) (x:=r) (by omega) h5
 unfold outside outI
 rw[square_eq (by omega) (by omega),W_id (x:=rr-r*r) (by omega) (by omega),W_id (x:=rr-r*r-d) (by omega) (by omega),U_id (x:=d) (by omega) (by omega),U_id (x:=4*d) (by omega) (by omega),U_id (x:=r*r) (by omega) (by omega)]
 dsimp only
 rw[wle (by omega) (by omega) ⟨by omega,by omega⟩ ⟨by omega,by omega⟩,orB_eq,←Bool.decide_or]
theorem inside_eq{d rr r:Int}(h0:0<=d)(h1:d<=4000000000000000000)(h2:0<=rr)(h3:rr<=4000000000000000000)(h4:1<=r)(h5:r<=1073741824):inside d rr r=insI d rr r:=by
 have s:=sq_bd (A:=1073741824) (x:=r) (by omega) h5
 unfold inside insI
 rw[square_eq (by omega) (by omega),W_id (x:=d-rr) (by omega) (by omega),W_id (x:=d-rr-r*r) (by omega) (by omega),U_id (x:=rr) (by omega) (by omega),U_id (x:=4*rr) (by omega) (by omega),U_id (x:=r*r) (by omega) (by omega)]
 dsimp only
 rw[wle (by omega) (by omega) ⟨by omega,by omega⟩ ⟨by omega,by omega⟩,orB_eq,←Bool.decide_or]
def sectI(p c a e:P2):Bool:=
 decide (same a e)||(if crossI c a e<0 then decide (crossI c a p>=0)||decide (crossI c p e>=0)else decide (crossI c a p>=0)&&decide (crossI c p e>=0))
theorem sector_eq{p c a e:P2}(hp:PR p)(hc:PR c)(ha:PR a)(he:PR e):sector p c a e=sectI p c a e:=by
 unfold sector sectI ringGreat
 rw[ptEq_eq,(cross_eq hc ha he).1,(cross_eq hc ha hp).1,(cross_eq hc hp he).1,orB_eq,andB_eq]
 by_cases s:same a e
 ·simp[s]
 ·by_cases k:crossI c a e<0<;>simp[s,k]
def okI(c a e:P2):Prop:=distI a c≠0/\distI a c=distI e c
theorem ringOk_eq{c a e:P2}(hc:PR c)(ha:PR a)(he:PR e):ringOk c a e=true↔okI c a e:=by
 have e1:=near_eq (b:=⟨c.x,c.y,c.x,c.y⟩) ⟨hc.x,hc.y,hc.x,hc.y⟩ ha
 have e2:=near_eq (b:=⟨c.x,c.y,c.x,c.y⟩) ⟨hc.x,hc.y,hc.x,hc.y⟩ he
 unfold ringOk ringApart okI
 rw[e1.1,e2.1,dist_near,dist_near,andB_eq]
 simp
def ringI(p c a e:P2)(r:Int):Bool:=decide (distI p a<=r*r)||decide (distI p e<=r*r)||(sectI p c a e&&outI (distI p c) (distI a c) r&&insI (distI p c) (distI a c) r)
theorem ringHas_eq{p c a e:P2}{r:Int}(hp:PR p)(hc:PR c)(ha:PR a)(he:PR e)(ok:okI c a e)(h4:1<=r)(h5:r<=1073741824)(hd:distI p c<=4000000000000000000)(hr:distI a c<=4000000000000000000):ringHas p c a e r=ringI p c a e r:=by
 have e1:=near_eq (b:=⟨c.x,c.y,c.x,c.y⟩) ⟨hc.x,hc.y,hc.x,hc.y⟩ hp
 have e2:=near_eq (b:=⟨c.x,c.y,c.x,c.y⟩) ⟨hc.x,hc.y,hc.x,hc.y⟩ ha
 unfold ringHas ringI
 rw[(ringOk_eq hc ha he).2 ok,decide_eq_false (show ¬r<1 by omega)]
 unfold ringApart
 rw[e1.1,e2.1,dist_near,dist_near,discHas_eq hp ha h4 (by omega),discHas_eq hp he h4 (by omega),sector_eq hp hc ha he,outside_eq (dist_nn _ _) hd (dist_nn _ _) hr h4 h5,inside_eq (dist_nn _ _) hd (dist_nn _ _) hr h4 h5]
 simp only[orB_eq,andB_eq,Bool.not_true,Bool.or_false,bif_f]
 cases (decide (distI p a<=r*r)||decide (distI p e<=r*r))<;>rfl
def liIn(b:B4)(c a e:P2):Bool:=decide (same a e)||(if crossI c a e<0 then all4 (λq=>decide (crossI c a q>=0)) b||all4 (λq=>decide (crossI c q e>=0)) b else all4 (λq=>decide (crossI c a q>=0)) b&&all4 (λq=>decide (crossI c q e>=0)) b)
def liOff(b:B4)(c a e:P2):Bool:=!(decide (same a e))&&(if crossI c a e<0 then all4 (λq=>decide (crossI c a q<0)) b&&all4 (λq=>decide (crossI c q e<0)) b else all4 (λq=>decide (crossI c a q<0)) b||all4 (λq=>decide (crossI c q e<0)) b)
theorem not_any(f:P2->Bool)(b:B4):(!(any4 f b))=all4 (λq=>!(f q)) b:=by
 unfold any4 all4
 dsimp only
 cases f ⟨b.x0,b.y0⟩<;>cases f ⟨b.x1,b.y0⟩<;>cases f ⟨b.x0,b.y1⟩<;>cases f ⟨b.x1,b.y1⟩<;>rfl
theorem lies_eq{b:B4}{c a e:P2}(hb:BR b)(hc:PR c)(ha:PR a)(he:PR e):liesIn b c a e=liIn b c a e/\liesOff b c a e=liOff b c a e:=by
 have u0:all4 (λq=>!(decide (cross c a q<0))) b=all4 (λq=>decide (crossI c a q>=0)) b:=all4_congr hb λq hq=>by rw[(cross_eq hc ha hq).1,←decide_not];exact decide_eq_decide.2 (by omega)
 have v0:all4 (λq=>!(decide (cross c q e<0))) b=all4 (λq=>decide (crossI c q e>=0)) b:=all4_congr hb λq hq=>by rw[(cross_eq hc hq he).1,←decide_not];exact decide_eq_decide.2 (by omega)
 have u4:all4 (λq=>decide (cross c a q<0)) b=all4 (λq=>decide (crossI c a q<0)) b:=all4_congr hb λq hq=>by rw[(cross_eq hc ha hq).1]
 have v4:all4 (λq=>decide (cross c q e<0)) b=all4 (λq=>decide (crossI c q e<0)) b:=all4_congr hb λq hq=>by rw[(cross_eq hc hq he).1]
 unfold liesIn liesOff liIn liOff ringGreat
 dsimp only
 rw[cnt4_none,cnt4_none,cnt4_all,cnt4_all,not_any,not_any,u0,v0,u4,v4,ptEq_eq,(cross_eq hc ha he).1]
 simp only[orB_eq,andB_eq]
 by_cases s:same a e
 ·simp[s]
 ·by_cases k:crossI c a e<0<;>simp[s,k]
def ringCl(b:B4)(c a e:P2)(r:Int):Int:=
 if mostI b a<=r*r\/mostI b e<=r*r then 2 else
 if liIn b c a e&&outI (nearI b c) (distI a c) r&&insI (mostI b c) (distI a c) r then 2 else
 if nearI b a<=r*r\/nearI b e<=r*r then 1 else
 if liOff b c a e || !(insI (nearI b c) (distI a c) r) || !(outI (mostI b c) (distI a c) r)then 0 else 1
theorem near_most{b:B4}{p:P2}(hx:b.x0<=b.x1)(hy:b.y0<=b.y1):nearI b p<=mostI b p:=by
 have q1:hasI b ⟨b.x0,b.y0⟩:=⟨by simp,hx,by simp,hy⟩
 have:=near_le (p:=p) q1;have:=most_ge (p:=p) q1;omega
theorem ringClass_eq{b:B4}{c a e:P2}{r:Int}(hb:BR b)(hc:PR c)(ha:PR a)(he:PR e)(ok:okI c a e)(hx:b.x0<=b.x1)(hy:b.y0<=b.y1)(h4:1<=r)(h5:r<=1073741824)(hd:mostI b c<=4000000000000000000)(hr:distI a c<=4000000000000000000):ringClass b c a e r=ringCl b c a e r:=by
 have e2:=near_eq (b:=⟨c.x,c.y,c.x,c.y⟩) ⟨hc.x,hc.y,hc.x,hc.y⟩ ha
 have hn:=near_eq hb hc
 have hm:=most_eq hb hc
 have nm:=near_most (p:=c) hx hy
 have na:=near_most (p:=a) hx hy
 have ne_:=near_most (p:=e) hx hy
 have hh:boxHas b ⟨b.x0,b.y0⟩=true:=(boxHas_eq _ _).2 ⟨by simp,hx,by simp,hy⟩
 unfold ringClass ringCl
 rw[(ringOk_eq hc ha he).2 ok,decide_eq_false (show ¬r<1 by omega),hh]
 unfold ringApart
 rw[e2.1,dist_near,hn.1,hm.1,discClass_eq hb ha hx hy h4 (by omega),discClass_eq hb he hx hy h4 (by omega),(lies_eq hb hc ha he).1,(lies_eq hb hc ha he).2,
  outside_eq hn.2.1 (by omega) (dist_nn _ _) hr h4 h5,outside_eq hm.2.1 hd (dist_nn _ _) hr h4 h5,inside_eq hn.2.1 (by omega) (dist_nn _ _) hr h4 h5,inside_eq hm.2.1 hd (dist_nn _ _) hr h4 h5]
 simp only[orB_eq,andB_eq,Bool.not_true,Bool.or_false,bif_f]
 generalize nearI b a=NA at *
 generalize nearI b e=NE at *
 generalize mostI b a=MA at *
 generalize mostI b e=ME at *
 generalize r*r=R at *
 have f1:((if NA>R then 0 else if MA<=R then 2 else 1:Int)==2||(if NE>R then 0 else if ME<=R then 2 else 1:Int)==2)=decide (MA<=R\/ME<=R):=by
  rw[Bool.eq_iff_iff]
  simp only[Bool.or_eq_true,beq_iff_eq,decide_eq_true_eq]
  constructor
  ·rintro(k|k)
   ·split at k
    ·cases k
    ·split at k
     ·left;assumption
     ·cases k
   ·split at k
    ·cases k
    ·split at k
     ·right;assumption
     ·cases k
  ·rintro(k|k)
   ·left;rw[if_neg (by omega),if_pos k]
   ·right;rw[if_neg (by omega),if_pos k]
 have f2:((if NA>R then 0 else if MA<=R then 2 else 1:Int)!=0||(if NE>R then 0 else if ME<=R then 2 else 1:Int)!=0)=decide (NA<=R\/NE<=R):=by
  rw[Bool.eq_iff_iff]
  simp only[Bool.or_eq_true,bne_iff_ne,decide_eq_true_eq]
  constructor
  ·rintro(k|k)
   ·left;split at k
    ·exact absurd rfl k
    ·omega
   ·right;split at k
    ·exact absurd rfl k
    ·omega
  ·rintro(k|k)
   ·left;rw[if_neg (by omega)];split<;>decide
   ·right;rw[if_neg (by omega)];split<;>decide
 rw[f1,f2]
 by_cases k1:MA<=R\/ME<=R
 ·rw[decide_eq_true k1,if_pos k1];rfl
 ·rw[decide_eq_false k1,if_neg k1,bif_f]
  cases k2:(liIn b c a e&&outI (nearI b c) (distI a c) r&&insI (mostI b c) (distI a c) r)
  ·simp only[bif_f,Bool.false_eq_true,if_false]
   by_cases k3:NA<=R\/NE<=R
   ·rw[decide_eq_true k3,if_pos k3];rfl
   ·rw[decide_eq_false k3,if_neg k3,bif_f]
    cases (liOff b c a e || !insI (nearI b c) (distI a c) r || !outI (mostI b c) (distI a c) r)<;>rfl
  ·rfl
def tbT:List Entry:=(32,en5 dP dI dI dI dB (λc f t s sm=>.tuple ⟨[pt (arcC c sm),pt (arcAt c f s sm),pt (arcAt c t s sm)]⟩))::tbF
theorem tbT_ok:∀e∈tbT,EntryOk Tryz.prog e:=List.forall_mem_cons.2 ⟨en5_ok dP_eq dI_eq dI_eq dI_eq dB_eq arc_ok,tbF_ok⟩
def atP(p:P2)(sm:Bool):P2:=⟨bif sm then(lClose p 20).x else(lPt p).x,bif sm then(lClose p 20).y else(lPt p).y⟩
def dptB(q:Bool):Dyn.DV:=.one (.ptr [.p (vb q)])
def enPb(F:P2->Bool->Dyn.RV):List Dyn.DV->Option (Dyn.RV×List Prop)
 |[.agg [.p (.int .i64 x),.p (.int .i64 y)],.one (.ptr [.p (.bool q)])]=>some (F ⟨x,y⟩ q,[])
 |_=>none
theorem enPb_ok{P:Program}{K:Nat}{F:P2->Bool->Dyn.RV}(h:∀x u,Dyn.CallD P K [dvP x,dptB u] (F x u)):Dyn.EntryDOk P (K,enPb F):=λargs r ps hr hp=>by
 dsimp only at hr
 unfold enPb at hr
 split at hr
 ·simp only[Option.some.injEq,Prod.mk.injEq]at hr
  obtain⟨rfl,rfl⟩:=hr
  rename_i x y u
  exact h ⟨x,y⟩ u
 ·cases hr
def RV.pt(p:P2):Dyn.RV:=.val (dvP p)
def tabA1:Dyn.Tabs:=Dyn.tabs tbT [] noD noD
theorem tabA1_ok:Dyn.TabsOk Tryz.prog tabA1:=Dyn.tabs_ok tbT_ok (λ_ h=>by cases h)
theorem at_O(p:P2)(sm:Bool):(Dyn.dfun Tryz.prog tabA1 Dyn.noLp 3 Tryz.f30 [dvP p,dptB sm]).ro Tryz.prog Tryz.f30.results=.ite sm (.side [W (20+1)≠0] (.leaf (RV.pt (lClose p 20)))) (.leaf (RV.pt (lPt p))):=by kernel_rfl
theorem at_ok(p:P2)(sm:Bool):Dyn.CallD Tryz.prog 30 [dvP p,dptB sm] (RV.pt (atP p sm)):=
 Dyn.dcontract (lp:=Dyn.noLp) (fuel:=3) (X:=tabA1) tabA1_ok mo Tryz.func30 (by kernel_rfl) (c:=bodyD Tryz.f30.body) (by kernel_rfl) (λw0=>Dyn.noLp_ok _ w0)
  (by kernel_rfl) (at_O p sm) ⟨λh=>by subst h;exact⟨⟨by decide,trivial⟩,ro_leaf rfl⟩,λh=>by subst h;exact ro_leaf rfl⟩
def drTm(K:Nat):Bool:=Nat.beq K 16||Nat.beq K 33
def tmK0(s:Sh):Int:=W ((W (s.k.tmod 6+6)).tmod 6+1)
def tmKk(s:Sh)(d:Int):Int:=bif bif decide (d>5)then tmK0 s==6 else false then 1 else tmK0 s
def tmR(s:Sh)(sm:Bool):Int:=bif sm then W ((lR s.r).tmod 15+1)else lR s.r
def eqP(a b:P2):Bool:=bif a.x==b.x then bif a.y==b.y then true else false else false
def tmB(s:Sh)(sm:Bool):P2:=
 bif bif eqP (atP s.a sm) (atP s.b sm)then decide ((atP s.b sm).x>0)else false then⟨W ((atP s.b sm).x-1),(atP s.b sm).y⟩else bif eqP (atP s.a sm) (atP s.b sm)then⟨W ((atP s.b sm).x+1),(atP s.b sm).y⟩else atP s.b sm
def ze:P2:=⟨0,0⟩
def zeC:Ctr:=⟨0,λ_=>0,λ_ _=>⟨0,0⟩⟩
def noF(_:Nat):List Dyn.DC:=[]
def tmN(s:Sh)(d:Int):Nat:=min s.n (imax (W (4-d)) 1).toNat
def tmF(g:Sh->Bool->Int->Sh)(sh:Nat->Sh)(add:Nat->Bool)(sm:Bool)(d:Int)(i:Nat):List Dyn.DC:=partC (add i) (g (sh i) sm (W (d+1)))
def tameG(g:Sh->Bool->Int->Sh)(sh:Nat->Sh)(add:Nat->Bool)(s:Sh)(sm:Bool)(d:Int):Sh:=
 bif tmKk s d==1 then⟨tmKk s d,atP s.a sm,ze,ze,tmR s sm,zeC,0,noF⟩
 else bif bif tmKk s d==3 then tmKk s d==3 else tmKk s d==4 then⟨tmKk s d,atP s.a sm,tmB s sm,ze,tmR s sm,zeC,0,noF⟩
 else bif tmKk s d==5 then⟨tmKk s d,arcAt s.c (band s.a.x 65535) s.b.x sm,arcAt s.c (band s.a.y 65535) s.b.x sm,arcC s.c sm,tmR s sm,zeC,0,noF⟩
 else bif tmKk s d==2 then⟨tmKk s d,ze,ze,ze,0,tameC s.l sm,0,noF⟩
 else⟨tmKk s d,ze,ze,ze,0,zeC,tmN s d,tmF g sh add sm d⟩
def tmZ:List Value:=[vi 0,vi 0,vi 0,vi 0,vi 0,vi 0,vi 0,vi 0,.slice none 0 0,.slice none 0 0]
def tmO10(k:Int)(nm n:Nat):List Value:=[vi k,vi 0,vi 0,vi 0,vi 0,vi 0,vi 0,vi 0,.slice none 0 0,.slice (some ⟨nm,0,some 0⟩) n 0]
def tmK:List Nat:=[2,3,4,6,8,10]
theorem tm_blocks:blocksL (bodyD Tryz.f16.body)=[(0,blkD Tryz.f16.body 0),(1,.loop (unloopD (blkD Tryz.f16.body 1))),(2,blkD Tryz.f16.body 2)]:=by kernel_rfl
theorem tm_b1:blocksL (unloopD (blkD Tryz.f16.body 1))=[(2,blkD Tryz.f16.body 2)]:=by kernel_rfl
def rvT(k:Int)(a b c:P2)(r:Int)(L:Dyn.DC)(n:Nat)(f:Nat->List Dyn.DC):Dyn.RV:=.val (.agg [cI k,cI a.x,cI a.y,cI b.x,cI b.y,cI c.x,cI c.y,cI r,L,.row n f])
def nilR:Dyn.DC:=.row 0 noF
theorem rvT_le{k:Int}{a b c:P2}{r:Int}{L:Dyn.DC}{n:Nat}{f:Nat->List Dyn.DC}{x:Sh}(hk:x.k=k)(ha:x.a=a)(hb:x.b=b)(hc:x.c=c)(hr:x.r=r)(hL:Dyn.DCLe L (cCtr x.l))(hn:n=x.n)(hf:∀i,i<n->f i=x.f i):(Dyn.RO.leaf (rvT k a b c r L n f)).sat λq=>Dyn.RVLe q (.val (dvS x)):=by
 subst hk;subst ha;subst hb;subst hc;subst hr
 exact⟨rfl,rfl,rfl,rfl,rfl,rfl,rfl,rfl,hL,⟨hn,hf⟩,trivial⟩
theorem nilR_le:Dyn.DCLe nilR (cCtr zeC):=⟨rfl,λi hi=>by omega⟩
def leafS(k:Int)(a b c:P2)(r:Int)(l:Ctr):Shp:=.mk k a b c r l 0 (λ_=>false) (λ_=>.nil)
def tameS:Shp->Bool->Int->Shp
 |.nil,_,_=>.nil
 |.mk k a b c r l n add sub,sm,d=>
  let s:Sh:=⟨k,a,b,c,r,l,n,noF⟩
  bif tmKk s d==1 then leafS (tmKk s d) (atP a sm) ze ze (tmR s sm) zeC
  else bif bif tmKk s d==3 then tmKk s d==3 else tmKk s d==4 then leafS (tmKk s d) (atP a sm) (tmB s sm) ze (tmR s sm) zeC
  else bif tmKk s d==5 then leafS (tmKk s d) (arcAt c (band a.x 65535) b.x sm) (arcAt c (band a.y 65535) b.x sm) (arcC c sm) (tmR s sm) zeC
  else bif tmKk s d==2 then leafS (tmKk s d) ze ze ze 0 (tameC l sm)
  else .mk (tmKk s d) ze ze ze 0 zeC (tmN s d) add (λi=>tameS (sub i) sm (W (d+1)))
noncomputable def tameE(x:Sh)(sm:Bool)(d:Int):Sh:=toSh (tameS (ofSh x) sm d)
theorem tameE_eq(s:Shp)(sm:Bool)(d:Int):tameE (toSh s) sm d=toSh (tameS s sm d):=by unfold tameE;rw[ofSh_toSh]
theorem dvS_leaf(k:Int)(a b c:P2)(r:Int)(l:Ctr):Dyn.DVLe (dvS ⟨k,a,b,c,r,l,0,noF⟩) (dvS (toSh (leafS k a b c r l))):=⟨rfl,rfl,rfl,rfl,rfl,rfl,rfl,rfl,Dyn.DCLe.refl _,⟨rfl,λi hi=>absurd hi (Nat.not_lt_zero _)⟩,trivial⟩
theorem tm_pick{K:Int}(D1 D2 D3 D4 D5:Sh)(E1 E2 E3 E4 E5:Shp)(h1:Dyn.DVLe (dvS D1) (dvS (toSh E1)))(h2:Dyn.DVLe (dvS D2) (dvS (toSh E2)))(h3:Dyn.DVLe (dvS D3) (dvS (toSh E3)))(h4:Dyn.DVLe (dvS D4) (dvS (toSh E4)))(h5:Dyn.DVLe (dvS D5) (dvS (toSh E5))) :
  Dyn.DVLe (dvS (bif K==1 then D1 else bif bif K==3 then K==3 else K==4 then D2 else bif K==5 then D3 else bif K==2 then D4 else D5)) (dvS (toSh (bif K==1 then E1 else bif bif K==3 then K==3 else K==4 then E2 else bif K==5 then E3 else bif K==2 then E4 else E5))):=by
 cases K==1
 ·cases (bif K==3 then K==3 else K==4)
  ·cases K==5
   ·cases K==2
    ·exact h5
    ·exact h4
   ·exact h3
  ·exact h2
 ·exact h1
theorem tameS_lvl(k:Int)(a b c:P2)(r:Int)(l:Ctr)(n:Nat)(add:Nat->Bool)(sub:Nat->Shp)(sm:Bool)(d:Int) :
  Dyn.DVLe (dvS (tameG tameE (λi=>toSh (sub i)) add (mkSh k a b c r l n add (λi=>toSh (sub i))) sm d)) (dvS (toSh (tameS (.mk k a b c r l n add sub) sm d))):=by
 refine tm_pick (K:=tmKk ⟨k,a,b,c,r,l,n,noF⟩ d) _ _ _ _ _ _ _ _ _ _ (dvS_leaf _ _ _ _ _ _) (dvS_leaf _ _ _ _ _ _) (dvS_leaf _ _ _ _ _ _) (dvS_leaf _ _ _ _ _ _) ?_
 refine⟨rfl,rfl,rfl,rfl,rfl,rfl,rfl,rfl,Dyn.DCLe.refl _,⟨rfl,λi hi=>?_⟩,trivial⟩
 show partC (add i) (tameE (toSh (sub i)) sm (W (d+1)))=partC (add i) (toSh (tameS (sub i) sm (W (d+1))))
 rw[tameE_eq]
def zl(b:Bool):List Dyn.DC->List Dyn.DC->List Dyn.DC
 |a::us,z::zs=>(bif b then a else z)::zl b us zs
 |_,_=>[]
theorem zl_t:∀{us zs:List Dyn.DC},us.length=zs.length->zl true us zs=us
 |[],[],_=>rfl
 |a::us,z::zs,h=>by show a::zl true us zs=_;rw[zl_t (Nat.succ.inj h)]
theorem zl_f:∀{us zs:List Dyn.DC},us.length=zs.length->zl false us zs=zs
 |[],[],_=>rfl
 |a::us,z::zs,h=>by show z::zl false us zs=_;rw[zl_f (Nat.succ.inj h)]
def fil(F:Nat->List Dyn.DC)(z:List Dyn.DC)(i:Nat):Nat->List Dyn.DC:=λj=>zl (Nat.blt j i) (F j) z
theorem fil_in{F:Nat->List Dyn.DC}{z:List Dyn.DC}{i j:Nat}(hl:(F j).length=z.length)(h:j<i):fil F z i j=F j:=by
 unfold fil
 rw[show Nat.blt j i=true from Nat.ble_eq_true_of_le h];exact zl_t hl
theorem fil_out{F:Nat->List Dyn.DC}{z:List Dyn.DC}{i j:Nat}(hl:(F j).length=z.length)(h:¬j<i):fil F z i j=z:=by
 unfold fil
 rw[show Nat.blt j i=false by rw[Bool.eq_false_iff];exact λe=>h (Nat.le_of_ble_eq_true e)];exact zl_f hl
theorem le_upd{t:TypeId}{n i:Nat}{F:Nat->List Dyn.DC}{z ds:List Dyn.DC}{off:Nat}(hl:∀j,(F j).length=z.length)(h:Dyn.setMany' z off ds=F i):Dyn.HeLe (some (.own t n (Dyn.updF (fil F z i) i off ds))) (some (.own t n (fil F z (i+1)))):=by
 refine⟨rfl,rfl,λj hj=>?_⟩
 unfold Dyn.updF
 by_cases e:j=i
 ·subst e
  rw[show Nat.beq j j=true from Nat.beq_refl j,fil_in (hl j) (show j<j+1 by omega),fil_out (hl j) (by omega)]
  exact h
 ·rw[show Nat.beq j i=false by rw[Bool.eq_false_iff];exact λq=>e (Nat.eq_of_beq_eq_true q)]
  by_cases l:j<i
  ·rw[fil_in (hl j) l,fil_in (hl j) (by omega)];rfl
  ·rw[fil_out (hl j) l,fil_out (hl j) (by omega)];rfl
theorem leaf_fits{P:Program}{w0:Dyn.Base P}{id:Nat}{c:Code}{s s1 s2:Dyn.St}{e:AExit}(h:Dyn.BlockSound P w0 id c s (.leaf e s1))(f:Dyn.Fits s1 s2):Dyn.BlockSound P w0 id c s (.leaf e s2):=λQ a w β m ng ho=>h Q a w β m ng (λβ a w m ng=>by
 obtain⟨β',m',ng'⟩:=Dyn.Ent.fits f β a w m ng
 exact ho β' a w m' ng')
def szM(b n:Nat):Prop:=0<=(n:Int)/\(n:Int)<=n/\(n:Int)<=9223372036854775807/\(b:Int)*(n:Int)<=281474976710656
theorem szM_ok{b n:Nat}(hb:b<=1000)(hn:n<=1000000000):szM b n:=by
 refine⟨by omega,by omega,by omega,?_⟩
 have:b*n<=1000*1000000000:=Nat.mul_le_mul hb hn
 have h2:(b:Int)*(n:Int)=((b*n:Nat):Int):=by rw[Int.natCast_mul]
 rw[h2];omega
theorem CtrB_ze:CtrB zeC:=⟨by decide,λi hi=>absurd hi (Nat.not_lt_zero i)⟩
end Go.Proofs.YtmekpbopoknigaaGreatDoor
namespace Go.Proofs.YtmekpbopoknigaaGreatDoor
open Go Go.ChangeShapes Go.WideShapes Go.ChangeAt Go.RowKit Go.Joins Go.Deep
set_option maxRecDepth 100000
section
variable{H:Type}{enc:TypeId×Value->H}{P:Program}{w:World}{base:Nat}{spare:Nat->Bool}{held:Bool}
theorem ctr_den{fuel:Nat}{x:DataW H×List MemPlace}{t e2 e:TypeId}{f0 f1:Field}{v:Value}(ht:P.underlying t=some (.slice e2))(hc2:P.cellsOf e2=1)(ht2:P.underlying e2=some (.slice e))(he:P.underlying e=some (.struct #[f0,f1]))
  (ce:P.cellsOf e=2) (o0:f0.offset=0) (o1:f1.offset=1) (c0:P.cellsOf f0.type=1) (c1:P.cellsOf f1.type=1) (k0:P.underlying f0.type=some (.int .i64)) (k1:P.underlying f1.type=some (.int .i64))
  (hf:DataW.trod enc P w base spare held fuel t [v]=some x):∃l:Ctr,Dyn.DenC w (λb=>b<w.heap.size) (cCtr l) v:=by
 rcases open_slice1 ht hc2 hf with⟨h,_⟩|⟨a',len',cap',m,n,V,D,Pl,h,hb,hl,hcap,hm,hx,hall⟩
 ·simp only[List.cons.injEq,and_true]at h
  rw[h]
  exact⟨⟨0,λ_=>0,λ_ _=>⟨0,0⟩⟩,.nil _ none 0⟩
 ·simp only[List.cons.injEq,and_true]at h
  rw[h]
  have hlm:len'<=m:=by rw[hm];split<;>omega
  by_cases hz:len'=0
  ·subst hz
   exact⟨⟨0,λ_=>0,λ_ _=>⟨0,0⟩⟩,.nil _ (some a') cap'⟩
  ·have h0:=(hall 0 (by omega)).1
   obtain⟨hlt,hsp⟩:=addr_cell h0
   have hsp:=hsp rfl
   obtain⟨b,off,sp⟩:=a'
   dsimp only at hsp
   subst hsp
   simp only[addr_add]at hall hlt
   haveI:Inhabited (Nat×(Nat->P2)):=⟨0,λ_=>⟨0,0⟩⟩
   obtain⟨g,hg⟩:=choose_lt (α:=Nat×(Nat->P2)) (n:=len') (p:=λi q=>Dyn.DenC w (λb=>b<w.heap.size) (cRow q.1 q.2) (V i)) (λi hi=>by
    obtain⟨q,p,hq⟩:=row_P ht2 he ce o0 o1 c0 c1 k0 k1 (hall i (by omega)).2
    exact⟨(q,p),hq⟩)
   refine⟨⟨len',λi=>(g i).1,λi=>(g i).2⟩,.row len' _ b off cap' 1 (λi _=>V i) hl hlt (λi hi=>⟨rfl,λj hj=>?_⟩) (λi j hi hj=>?_)⟩
   ·obtain rfl:j=0:=by omega
    rw[Nat.mul_one,Nat.add_zero];exact(hall i (by omega)).1
   ·obtain rfl:j=0:=by omega
    exact hg i hi
theorem pt_den{F:Nat->Prop}{fuel:Nat}{x:DataW H×List MemPlace}{t:TypeId}{f0 f1:Field}{u v:Value}(ht:P.underlying t=some (.struct #[f0,f1]))(o0:f0.offset=0)(o1:f1.offset=1)(c0:P.cellsOf f0.type=1)(c1:P.cellsOf f1.type=1)(k0:P.underlying f0.type=some (.int .i64))(k1:P.underlying f1.type=some (.int .i64))
  (hf:DataW.trod enc P w base spare held fuel t [u,v]=some x):∃p:P2,u=vi p.x/\v=vi p.y/\Dyn.DenC w F (cI p.x) u/\Dyn.DenC w F (cI p.y) v:=by
 obtain⟨y0,y1,n,_,_,h0,h1⟩:=trod_struct2 ht hf
 rw[o0,c0]at h0
 rw[o1,c1]at h1
 obtain⟨x0,e0,_⟩:=DataW.trod_int k0 h0
 obtain⟨x1,e1,_⟩:=DataW.trod_int k1 h1
 simp only[List.drop_zero,List.take_succ_cons,List.take_zero,List.cons.injEq,and_true,List.drop_succ_cons]at e0 e1
 subst e0;subst e1
 exact⟨⟨x0,x1⟩,rfl,rfl,.p _ rfl,.p _ rfl⟩
theorem DenL_get{F:Nat->Prop}:∀{ds:List Dyn.DC} {us:List Value} {j:Nat},Dyn.DenL w F ds us->j<us.length->Dyn.DenC w F (ds.getD j default) (us.getD j default)
 |[],[],_,_,h=>absurd h (Nat.not_lt_zero _)
 |d::ds,u::us,0,h,_=>h.1
 |d::ds,u::us,j+1,h,hj=>DenL_get (ds:=ds) (us:=us) (j:=j) h.2 (Nat.lt_of_succ_lt_succ hj)
structure ShT(P:Program)(tS tK tP tR tL tL1 tQ tE tB tI:TypeId):Prop where
 s:∃f0 f1 f2 f3 f4 f5 f6:Field,P.underlying tS=some (.struct #[f0,f1,f2,f3,f4,f5,f6])/\(f0.type=tK/\f1.type=tP/\f2.type=tP/\f3.type=tP/\f4.type=tR/\f5.type=tL/\f6.type=tQ)/\f0.offset=0/\f1.offset=1/\f2.offset=3/\f3.offset=5/\f4.offset=7/\f5.offset=8/\f6.offset=9
 sc:P.cellsOf tS=10
 kc:P.cellsOf tK=1
 pc:P.cellsOf tP=2
 rc:P.cellsOf tR=1
 lc:P.cellsOf tL=1
 qc:P.cellsOf tQ=1
 k:P.underlying tK=some (.int .i64)
 r:P.underlying tR=some (.int .i64)
 p:∃g0 g1:Field,P.underlying tP=some (.struct #[g0,g1])/\g0.offset=0/\g1.offset=1/\g0.type=tI/\g1.type=tI
 ic:P.cellsOf tI=1
 i:P.underlying tI=some (.int .i64)
 l:P.underlying tL=some (.slice tL1)
 l1c:P.cellsOf tL1=1
 l1:P.underlying tL1=some (.slice tP)
 q:P.underlying tQ=some (.slice tE)
 ec:P.cellsOf tE=11
 e:∃h0 h1:Field,P.underlying tE=some (.struct #[h0,h1])/\h0.offset=0/\h1.offset=1/\h0.type=tB/\h1.type=tS
 bc:P.cellsOf tB=1
 b:P.underlying tB=some .bool
theorem shape_den{tS tK tP tR tL tL1 tQ tE tB tI:TypeId}(T:ShT P tS tK tP tR tL tL1 tQ tE tB tI):∀(fuel:Nat) (cs:List Value) (x:DataW H×List MemPlace),DataW.trod enc P w base spare held fuel tS cs=some x->
  ∃s:Shp,ShW s/\Dyn.DenL w (λb=>b<w.heap.size) (cS (toSh s)) cs:=by
 intro fuel
 induction fuel using Nat.strongRecOn with
 |_ fuel ih=>
  intro cs x hx
  obtain⟨f0,f1,f2,f3,f4,f5,f6,hs,⟨t0,t1,t2,t3,t4,t5,t6⟩,o0,o1,o2,o3,o4,o5,o6⟩:=T.s
  obtain⟨g0,g1,hp,p0,p1,q0,q1⟩:=T.p
  obtain⟨h0,h1,he,a0,a1,b0,b1⟩:=T.e
  obtain⟨xs,n,rfl,_,hl,hlen,hf⟩:=DataW.trod_struct hs hx
  rw[T.sc]at hl
  obtain⟨v0,v1,v2,v3,v4,v5,v6,v7,v8,v9,rfl⟩:∃v0 v1 v2 v3 v4 v5 v6 v7 v8 v9:Value,cs=[v0,v1,v2,v3,v4,v5,v6,v7,v8,v9]:=by
   match cs,hl with
   |[v0,v1,v2,v3,v4,v5,v6,v7,v8,v9],_=>exact⟨v0,v1,v2,v3,v4,v5,v6,v7,v8,v9,rfl⟩
  have hxl:xs.length=7:=hlen
  have get:∀i,i<7->∃y,xs[i]? = some y:=λi hi=>⟨xs[i],List.getElem?_eq_getElem (by omega)⟩
  obtain⟨y0,e0⟩:=get 0 (by decide)
  obtain⟨y1,e1⟩:=get 1 (by decide)
  obtain⟨y2,e2⟩:=get 2 (by decide)
  obtain⟨y3,e3⟩:=get 3 (by decide)
  obtain⟨y4,e4⟩:=get 4 (by decide)
  obtain⟨y5,e5⟩:=get 5 (by decide)
  obtain⟨y6,e6⟩:=get 6 (by decide)
  have k0:=hf 0 f0 rfl
  have k1:=hf 1 f1 rfl
  have k2:=hf 2 f2 rfl
  have k3:=hf 3 f3 rfl
  have k4:=hf 4 f4 rfl
  have k5:=hf 5 f5 rfl
  have k6:=hf 6 f6 rfl
  rw[e0,t0,o0,T.kc]at k0
  rw[e1,t1,o1,T.pc]at k1
  rw[e2,t2,o2,T.pc]at k2
  rw[e3,t3,o3,T.pc]at k3
  rw[e4,t4,o4,T.rc]at k4
  rw[e5,t5,o5,T.lc]at k5
  rw[e6,t6,o6,T.qc]at k6
  simp only[List.drop_zero,List.take_succ_cons,List.take_zero,List.drop_succ_cons]at k0 k1 k2 k3 k4 k5 k6
  obtain⟨z0,r0,_⟩:=DataW.trod_int T.k k0
  obtain⟨z4,r4,_⟩:=DataW.trod_int T.r k4
  simp only[List.cons.injEq,and_true]at r0 r4
  subst r0;subst r4
  obtain⟨pa,_,_,a1',a2'⟩:=pt_den (F:=λb=>b<w.heap.size) hp p0 p1 (by rw[q0];exact T.ic) (by rw[q1];exact T.ic) (by rw[q0];exact T.i) (by rw[q1];exact T.i) k1
  obtain⟨pb,_,_,b1',b2'⟩:=pt_den (F:=λb=>b<w.heap.size) hp p0 p1 (by rw[q0];exact T.ic) (by rw[q1];exact T.ic) (by rw[q0];exact T.i) (by rw[q1];exact T.i) k2
  obtain⟨pc,_,_,c1',c2'⟩:=pt_den (F:=λb=>b<w.heap.size) hp p0 p1 (by rw[q0];exact T.ic) (by rw[q1];exact T.ic) (by rw[q0];exact T.i) (by rw[q1];exact T.i) k3
  obtain⟨l,hL⟩:=ctr_den T.l T.l1c T.l1 hp T.pc p0 p1 (by rw[q0];exact T.ic) (by rw[q1];exact T.ic) (by rw[q0];exact T.i) (by rw[q1];exact T.i) k5
  have parts:∃(m:Nat) (add:Nat->Bool) (sub:Nat->Shp),(∀i,i<m->ShW (sub i))/\Dyn.DenC w (λb=>b<w.heap.size) (.row m λi=>partC (add i) (toSh (sub i))) v9:=by
   rcases DataW.trod_slice T.q k6 with⟨hv,_⟩|⟨a,len,cap,elems,rest,m,rfl,hv,_,hb,hle,_,hel,hall,_⟩
   ·simp only[List.cons.injEq,and_true]at hv
    subst hv
    exact⟨0,λ_=>false,λ_=>.nil,λi hi=>absurd hi (Nat.not_lt_zero i),.nil _ none 0⟩
   ·simp only[List.cons.injEq,and_true]at hv
    subst hv
    have part:∀i,i<len->∃q:(Bool×Shp)×(Nat->Value),ShW q.1.2/\(∀j,j<11->w.cell? ((a.add (i*11)).add j)=some (q.2 j))/\(∀j,j<11->Dyn.DenC w (λb=>b<w.heap.size) ((partC q.1.1 (toSh q.1.2)).getD j default) (q.2 j)):=λi hi=>by
     have key:=hall i hi
     rw[T.ec,List.getElem?_eq_getElem (by omega)]at key
     obtain⟨cs',h1',h2'⟩:=Option.bind_eq_some_iff.1 key
     obtain⟨_,hlen',hcell⟩:=World.cells?_some h1'
     obtain⟨ys,n',rfl,_,_,hyl,hfy⟩:=DataW.trod_struct he h2'
     have hyl:ys.length=2:=hyl
     have m0:=hfy 0 h0 rfl
     have m1:=hfy 1 h1 rfl
     rw[List.getElem?_eq_getElem (by omega),b0,a0,T.bc]at m0
     rw[List.getElem?_eq_getElem (by omega),b1,a1,T.sc]at m1
     obtain⟨c,cs'',rfl⟩:∃c cs'',cs'=c::cs'':=by
      match cs',hlen' with
      |c::cs'',_=>exact⟨c,cs'',rfl⟩
     simp only[List.drop_zero,List.take_succ_cons,List.take_zero,List.drop_succ_cons]at m0 m1
     rw[List.take_of_length_le (by simp only[List.length_cons]at hlen';omega)]at m1
     obtain⟨q,hq,_⟩:=DataW.trod_bool T.b m0
     simp only[List.cons.injEq,and_true]at hq
     subst hq
     obtain⟨s',hW',hD'⟩:=ih n' (by omega) _ _ m1
     refine⟨((q,s'),λj=>((.bool q:Value)::cs'').getD j default),hW',λj hj=>?_,λj hj=>?_⟩
     ·rw[hcell j hj]
      show _=some ((Value.bool q::cs'').getD j default)
      rw[List.getD_eq_getElem?_getD,List.getElem?_eq_getElem (by omega)];rfl
     ·exact DenL_get (ds:=partC q (toSh s')) (us:=.bool q::cs'') ⟨.p _ rfl,hD'⟩ (by omega)
    by_cases hz:len=0
    ·subst hz
     exact⟨0,λ_=>false,λ_=>.nil,λi hi=>absurd hi (Nat.not_lt_zero i),.nil _ (some a) cap⟩
    ·haveI:Inhabited ((Bool×Shp)×(Nat->Value)):=⟨((false,.nil),λ_=>default)⟩
     obtain⟨g,hg⟩:=choose_lt part
     have z0:=(hg 0 (by omega)).2.1 0 (by decide)
     have za:(a.add (0*11)).add 0=a.add 0:=rfl
     rw[za]at z0
     obtain⟨hlt,hsp⟩:=addr_cell z0
     have hsp:=hsp rfl
     obtain⟨b,off,sp⟩:=a
     dsimp only at hsp
     subst hsp
     simp only[addr_add]at hg hlt
     exact⟨len,λi=>(g i).1.1,λi=>(g i).1.2,λi hi=>(hg i hi).1,.row len _ b off cap 11 (λi j=>(g i).2 j) hle hlt (λi hi=>⟨rfl,λj hj=>(hg i hi).2.1 j hj⟩) (λi j hi hj=>(hg i hi).2.2 j hj)⟩
  obtain⟨m,add,sub,hW,hQ⟩:=parts
  exact⟨.mk z0 pa pb pc z4 l m add sub,hW,.p _ rfl,a1',a2',b1',b2',c1',c2',.p _ rfl,hL,hQ,trivial⟩
end
theorem shT:ShT Tryz.prog 37 3 26 2 34 77 35 79 4 2 where
 s:=⟨_,_,_,_,_,_,_,Tryz.underlying37,⟨rfl,rfl,rfl,rfl,rfl,rfl,rfl⟩,rfl,rfl,rfl,rfl,rfl,rfl,rfl⟩
 sc:=by kernel_rfl
 kc:=by kernel_rfl
 pc:=by kernel_rfl
 rc:=by kernel_rfl
 lc:=by kernel_rfl
 qc:=by kernel_rfl
 k:=Tryz.underlying3
 r:=Tryz.underlying2
 p:=⟨_,_,Tryz.underlying26,rfl,rfl,rfl,rfl⟩
 ic:=by kernel_rfl
 i:=Tryz.underlying2
 l:=Tryz.underlying34
 l1c:=by kernel_rfl
 l1:=Tryz.underlying77
 q:=Tryz.underlying35
 ec:=by kernel_rfl
 e:=⟨_,_,Tryz.underlying79,rfl,rfl,rfl,rfl⟩
 bc:=by kernel_rfl
 b:=Tryz.underlying4
end Go.Proofs.YtmekpbopoknigaaGreatDoor
namespace Go.Proofs.YtmekpbopoknigaaGreatDoor
open Go Go.RowKit Sym
set_option maxRecDepth 100000
def dvL(x:Sh):Dyn.DV:=.one (.row x.n x.f)
def obX(n:Nat)(f:Nat->List Dyn.DC):Sh:=⟨6,ze,ze,ze,0,zeC,n,f⟩
def mkL(n:Nat)(add:Nat->Bool)(sh:Nat->Sh):Sh:=mkSh 6 ze ze ze 0 zeC n add sh
def qL:Dec Sh
 |.one (.row n f)=>some (obX n f,[])
 |_=>none
theorem qL_ok:DecOk qL dvL (λ_=>True):=λd x ps h hp=>by
 unfold qL at h;split at h
 ·simp only[Option.some.injEq,Prod.mk.injEq]at h
  obtain⟨rfl,rfl⟩:=h
  exact⟨⟨rfl,λ_ _=>rfl⟩,trivial⟩
 ·cases h
theorem SLe.dvL{x y:Sh}(h:SLe x y):Dyn.DVLe (dvL x) (dvL y):=⟨h.2.2.2.2.2.2.1,h.2.2.2.2.2.2.2⟩
def dtyO(t:TypeId):Bool:=dtyS t||Nat.beq t 41||Nat.beq t 22
def lForm(n:Nat)(add:Nat->Bool)(sub:Nat->Shp):Shp:=.mk 6 ze ze ze 0 zeC n add sub
def nuO:Shp->Nat
 |.nil=>0
 |.mk _ _ _ _ _ _ n _ _=>n
def adO:Shp->Nat->Bool
 |.nil,_=>false
 |.mk _ _ _ _ _ _ _ add _,i=>add i
def suO:Shp->Nat->Shp
 |.nil,_=>.nil
 |.mk _ _ _ _ _ _ _ _ sub,i=>sub i
noncomputable def sbG(sh:Nat->Sh)(i:Nat)(_:Unit):Bool×Unit:=(smallE (sh i) 0,())
noncomputable def small21(s:Shp):Bool:=bif decide ((nuO s:Int)>20)then false else(runN (λi (_:Unit)=>(smallF (suO s i) 0,())) () (nuO s)).1
noncomputable def tdSb:List Dyn.EntryD:=[(14,en2D (qAnd qS PdW) qI λx d=>rB (smallE x d))]
def sbR:Dyn.St:=mkS 20 [(2,.k (vb false))] []
def sbK:List Nat:=[0,2,3]
theorem sb_blocks:blocksL (bodyD Tryz.f5.body)=[(0,.loop (unloopD (blkD Tryz.f5.body 0))),(1,blkD Tryz.f5.body 1)]:=by kernel_rfl
theorem sb_b0:blocksL (unloopD (blkD Tryz.f5.body 0))=[(1,blkD Tryz.f5.body 1)]:=by kernel_rfl
noncomputable def tame21(s:Shp)(sm:Bool):Shp:=.mk 6 ze ze ze 0 zeC (min (nuO s) 12) (adO s) (λi=>tameS (suO s i) sm 2)
noncomputable def tdTl:List Dyn.EntryD:=[(16,en3D (qAnd qS PdS) qB qI λx q d=>.val (dvS (tameE x q d)))]
def drTl(K:Nat):Bool:=Nat.beq K 16
noncomputable def tlF(add:Nat->Bool)(sh:Nat->Sh)(sm:Bool)(i:Nat):List Dyn.DC:=partC (add i) (tameE (sh i) sm 2)
def tlK:List Nat:=[0,1,4,5,6]
theorem tl_blocks:blocksL (bodyD Tryz.f7.body)=[(0,.loop (unloopD (blkD Tryz.f7.body 0))),(1,blkD Tryz.f7.body 1)]:=by kernel_rfl
theorem tl_b0:blocksL (unloopD (blkD Tryz.f7.body 0))=[(1,blkD Tryz.f7.body 1)]:=by kernel_rfl
noncomputable def figClassS(s:Shp)(b:B4):Int:=bif !(okE (toSh s))then 0 else classF s b
noncomputable def pClass(s:Shp)(b:B4):Int:=foldN (λi acc=>foldF acc (figClassS (suO s i) b) (adO s i)) 0 (nuO s)
theorem figClassE_eq(s:Shp)(b:B4):figClassE (toSh s) b=figClassS s b:=by unfold figClassE figClassS;rw[classE_eq]
noncomputable def tdPc:List Dyn.EntryD:=[(73,en2D (qAnd qS PdS) qX λx b=>rI (figClassE x b))]
noncomputable def tabPc:Dyn.Tabs:=Dyn.tabs tbF tdPc noD dtyO
theorem tabPc_ok:Dyn.TabsOk Tryz.prog tabPc:=Dyn.tabs_ok tbF_ok (List.forall_mem_cons.2 ⟨en2D_ok (qAnd_ok qS_ok) qX_ok λx b h _=>figClass_ok x h.1 b,λ_ h=>by cases h⟩)
noncomputable def pcG(sh:Nat->Sh)(add:Nat->Bool)(b:B4)(i:Nat)(acc:Int):Int:=foldF acc (figClassE (sh i) b) (add i)
def pcS(s:Sh)(b:B4)(acc i:Int):Dyn.St:=mkS 24 [(3,sL 1),(4,.k (vi 0)),(5,sI acc),(8,sH 0 0 s.n),(9,sI s.n),(10,sI i)] [some (.deep [.row s.n s.f]),some (.cells 114 [vi b.x0,vi b.y0,vi b.x1,vi b.y1])]
def pcK:List Nat:=[3,4,5,8,9,10]
noncomputable def pcLp(sh:Nat->Sh)(add:Nat->Bool)(s:Sh)(b:B4):Dyn.Lp:=λid st=>match id with
 |0=>some (.side [keepA 24 [0,1] [] pcK (2 ^ 5+2 ^ 10) st=pcS s b 0 0] (.leaf .normal (pcS s b (foldN (pcG sh add b) 0 s.n) s.n)))
 |_=>none
noncomputable def pcB(sh:Nat->Sh)(add:Nat->Bool)(s:Sh)(b:B4)(i:Nat)(acc:Int):Dyn.Out:=
 .ite (decide ((i:Int)<s.n)) (.side [0<=(i:Int)/\(i:Int)<s.n] (.side [PdS (sh i),ctrSelf (sh i).l] (.leaf .normal (pcS s b (foldF acc (figClassE (sh i) b) (add i)) (W (i+1)))))) (.leaf (.exit 0) (pcS s b acc i))
theorem pc_B(n:Nat)(add:Nat->Bool)(sh:Nat->Sh)(b:B4)(i:Nat)(acc:Int):(Dyn.lexec Tryz.prog tabPc (pcLp sh add (mkL n add sh) b) 3 (unloopD (blkD Tryz.f58.body 0)) .leaf (pcS (mkL n add sh) b acc i)).rl (keepR 24 [0,1] [] pcK [])=pcB sh add (mkL n add sh) b i acc:=by kernel_rfl
theorem pc_blocks:blocksL (bodyD Tryz.f58.body)=[(0,.loop (unloopD (blkD Tryz.f58.body 0))),(1,blkD Tryz.f58.body 1)]:=by kernel_rfl
theorem pc_b0:blocksL (unloopD (blkD Tryz.f58.body 0))=[(1,blkD Tryz.f58.body 1)]:=by kernel_rfl
theorem pc_loop(n:Nat)(add:Nat->Bool)(sh:Nat->Sh)(hn:n<=1000000000)(hP:∀i,i<n->PdS (sh i))(b:B4)(w0:Dyn.Base Tryz.prog)(s:Dyn.St)(o:Dyn.Out)(h:pcLp sh add (mkL n add sh) b 0 s=some o):Dyn.BlockSound Tryz.prog w0 0 (.loop (unloopD (blkD Tryz.f58.body 0))) s o:=by
 simp only[pcLp,Option.some.injEq]at h
 subst h
 refine side_one λhS=>?_
 refine fold_block (fuel:=3) tabPc_ok mo (lp:=pcLp sh add (mkL n add sh) b) (by rw[pc_b0];exact lpOk_cons (λs o h=>by cases h) lpOk_nil) (λi acc=>pcS (mkL n add sh) b acc i) n (pcG sh add b) 0 (keepR 24 [0,1] [] pcK []) (keepR_ent 24 _ _ _ _) (λi acc=>pcB sh add (mkL n add sh) b i acc) (λi acc=>pc_B n add sh b i acc) (λi hi=>?_) ?_ (hS▸keepA_ent 24 _ _ _ _ s)
 ·refine⟨λ_=>⟨⟨⟨by omega,by show(i:Int)<(n:Int);omega⟩,trivial⟩,⟨hP i hi,ctrSelf_ok _,trivial⟩,rfl,?_⟩,λhf=>?_⟩
  ·rw[Wn1 hi hn];exact Dyn.Fits.refl _
  ·rw[decide_eq_false_iff_not]at hf
   exact absurd (show(i:Int)<(n:Int)by omega) hf
 ·refine⟨λht=>?_,λ_=>⟨rfl,Dyn.Fits.refl _⟩⟩
  rw[decide_eq_true_eq]at ht
  exact absurd (show(n:Int)<(n:Int)from ht) (by omega)
theorem pc_O(sh:Nat->Sh)(add:Nat->Bool)(s:Sh)(b:B4):(Dyn.dfun Tryz.prog tabPc (pcLp sh add s b) 3 Tryz.f58 [dvL s,dvX b]).ro Tryz.prog Tryz.f58.results=.side [pcS s b 0 0=pcS s b 0 0] (.leaf (rI (foldN (pcG sh add b) 0 s.n))):=by kernel_rfl
theorem pc_lvl(n:Nat)(add:Nat->Bool)(sh:Nat->Sh)(hn:n<=1000000000)(hP:∀i,i<n->PdS (sh i))(b:B4):Dyn.CallD Tryz.prog 58 [dvL (mkL n add sh),dvX b] (rI (foldN (pcG sh add b) 0 n)):=
 Dyn.dcontract (lp:=pcLp sh add (mkL n add sh) b) (fuel:=3) tabPc_ok mo Tryz.func58 (by kernel_rfl) (c:=bodyD Tryz.f58.body) (by kernel_rfl)
  (λw0=>by rw[pc_blocks];exact lpOk_cons (pc_loop n add sh hn hP b w0) (lpOk_cons (λs o h=>by cases h) lpOk_nil))
  (by kernel_rfl) (pc_O sh add _ b) ⟨⟨rfl,trivial⟩,ro_leaf rfl⟩
theorem pClass_ok:∀s:Shp,ShB s->∀b,Dyn.CallD Tryz.prog 58 [dvL (toSh s),dvX b] (rI (pClass s b)):=by
 intro s h b
 cases s with
 |nil=>exact h.elim
 |mk k a b' c r l n add sub=>
  have q:=pc_lvl n add (λi=>toSh (sub i)) h.2.1 (λi hi=>PdS_mk (h.2.2 i hi)) b
  unfold pcG at q
  simp only[figClassE_eq]at q
  exact q
end Go.Proofs.YtmekpbopoknigaaGreatDoor
namespace Go.Proofs.YtmekpbopoknigaaGreatDoor
open Go Go.ChangeShapes Go.WideShapes Go.ChangeAt Go.RowKit Go.Joins Go.Deep
set_option maxRecDepth 100000
section
variable{H:Type}{enc:TypeId×Value->H}{P:Program}{w:World}{base:Nat}{spare:Nat->Bool}{held:Bool}
theorem objs_den{tS tK tP tR tL tL1 tQ tE tB tI tQ' tE':TypeId}(T:ShT P tS tK tP tR tL tL1 tQ tE tB tI)(q:P.underlying tQ'=some (.slice tE'))(ec:P.cellsOf tE'=11)
  (he:∃h0 h1:Field,P.underlying tE'=some (.struct #[h0,h1])/\h0.offset=0/\h1.offset=1/\h0.type=tB/\h1.type=tS) {fuel:Nat} {v9:Value} {y:DataW H×List MemPlace} (k6:DataW.trod enc P w base spare held fuel tQ' [v9]=some y) :
  ∃(m:Nat) (add:Nat->Bool) (sub:Nat->Shp),(∀i,i<m->ShW (sub i))/\Dyn.DenC w (λb=>b<w.heap.size) (.row m λi=>partC (add i) (toSh (sub i))) v9:=by
 obtain⟨h0,h1,he,a0,a1,b0,b1⟩:=he
 rcases DataW.trod_slice q k6 with⟨hv,_⟩|⟨a,len,cap,elems,rest,m,rfl,hv,_,hb,hle,_,hel,hall,_⟩
 ·simp only[List.cons.injEq,and_true]at hv
  subst hv
  exact⟨0,λ_=>false,λ_=>.nil,λi hi=>absurd hi (Nat.not_lt_zero i),.nil _ none 0⟩
 ·simp only[List.cons.injEq,and_true]at hv
  subst hv
  have part:∀i,i<len->∃q:(Bool×Shp)×(Nat->Value),ShW q.1.2/\(∀j,j<11->w.cell? ((a.add (i*11)).add j)=some (q.2 j))/\(∀j,j<11->Dyn.DenC w (λb=>b<w.heap.size) ((partC q.1.1 (toSh q.1.2)).getD j default) (q.2 j)):=λi hi=>by
   have key:=hall i hi
   rw[ec,List.getElem?_eq_getElem (by omega)]at key
   obtain⟨cs',h1',h2'⟩:=Option.bind_eq_some_iff.1 key
   obtain⟨_,hlen',hcell⟩:=World.cells?_some h1'
   obtain⟨ys,n',rfl,_,_,hyl,hfy⟩:=DataW.trod_struct he h2'
   have hyl:ys.length=2:=hyl
   have m0:=hfy 0 h0 rfl
   have m1:=hfy 1 h1 rfl
   rw[List.getElem?_eq_getElem (by omega),b0,a0,T.bc]at m0
   rw[List.getElem?_eq_getElem (by omega),b1,a1,T.sc]at m1
   obtain⟨c,cs'',rfl⟩:∃c cs'',cs'=c::cs'':=by
    match cs',hlen' with
    |c::cs'',_=>exact⟨c,cs'',rfl⟩
   simp only[List.drop_zero,List.take_succ_cons,List.take_zero,List.drop_succ_cons]at m0 m1
   rw[List.take_of_length_le (by simp only[List.length_cons]at hlen';omega)]at m1
   obtain⟨q,hq,_⟩:=DataW.trod_bool T.b m0
   simp only[List.cons.injEq,and_true]at hq
   subst hq
   obtain⟨s',hW',hD'⟩:=shape_den T n' _ _ m1
   refine⟨((q,s'),λj=>((.bool q:Value)::cs'').getD j default),hW',λj hj=>?_,λj hj=>?_⟩
   ·rw[hcell j hj]
    show _=some ((Value.bool q::cs'').getD j default)
    rw[List.getD_eq_getElem?_getD,List.getElem?_eq_getElem (by omega)];rfl
   ·exact DenL_get (ds:=partC q (toSh s')) (us:=.bool q::cs'') ⟨.p _ rfl,hD'⟩ (by omega)
  by_cases hz:len=0
  ·subst hz
   exact⟨0,λ_=>false,λ_=>.nil,λi hi=>absurd hi (Nat.not_lt_zero i),.nil _ (some a) cap⟩
  ·haveI:Inhabited ((Bool×Shp)×(Nat->Value)):=⟨((false,.nil),λ_=>default)⟩
   obtain⟨g,hg⟩:=choose_lt part
   have z0:=(hg 0 (by omega)).2.1 0 (by decide)
   have za:(a.add (0*11)).add 0=a.add 0:=rfl
   rw[za]at z0
   obtain⟨hlt,hsp⟩:=addr_cell z0
   have hsp:=hsp rfl
   obtain⟨b,off,sp⟩:=a
   dsimp only at hsp
   subst hsp
   simp only[addr_add]at hg hlt
   exact⟨len,λi=>(g i).1.1,λi=>(g i).1.2,λi hi=>(hg i hi).1,.row len _ b off cap 11 (λi j=>(g i).2 j) hle hlt (λi hi=>⟨rfl,λj hj=>(hg i hi).2.1 j hj⟩) (λi j hi hj=>(hg i hi).2.2 j hj)⟩
theorem open_O{tS tK tP tR tL tL1 tQ tE tB tI tQ' tE':TypeId}(T:ShT P tS tK tP tR tL tL1 tQ tE tB tI)(q:P.underlying tQ'=some (.slice tE'))(ec:P.cellsOf tE'=11)
  (he:∃h0 h1:Field,P.underlying tE'=some (.struct #[h0,h1])/\h0.offset=0/\h1.offset=1/\h0.type=tB/\h1.type=tS) {r:Reach} {b0:Nat} {v:Value} {d:DataW H} {ps:List MemPlace} (hval:Value.okWide P w r b0 tQ' v) (hd:DataW.Trod enc P w base spare held tQ' v d ps) :
  ∃s:Shp,ShW s/\Dyn.DenV w (λb=>b<w.heap.size) (dvL (toSh s)) v:=by
 obtain⟨a,len,cap,rfl⟩:=okWide_slice q hval
 obtain⟨fuel,hf⟩:=hd
 obtain⟨m,add,sub,hW,hD⟩:=objs_den T q ec he hf
 exact⟨lForm m add sub,hW,hD⟩
end
end Go.Proofs.YtmekpbopoknigaaGreatDoor
namespace Go.Proofs.YtmekpbopoknigaaGreatDoor
open Go Go.RowKit Sym
set_option maxRecDepth 100000
end Go.Proofs.YtmekpbopoknigaaGreatDoor

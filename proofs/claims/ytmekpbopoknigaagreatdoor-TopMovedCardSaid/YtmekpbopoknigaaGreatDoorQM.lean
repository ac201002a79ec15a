import Derived.Test.YtmekpbopoknigaaGreatDoorQL
namespace Go.Proofs.YtmekpbopoknigaaGreatDoor
open Go Go.RowKit Sym
set_option maxRecDepth 100000
def zdn(p a e:P2):Bool:=bif (decide (a.y>p.y)==decide (e.y>p.y))then false else bif decide (e.y>a.y)then decide (zfm a e p>0)else decide (zfm a e p<0)
theorem z6f(p a e:P2):za2 Tryz.prog 203 [pt p,pt a,pt e] (vb (zdn p a e)):=
 fnOk (fuel:=16) (zas zj8) mo Tryz.func203 (by kernel_rfl) (by kernel_rfl) (by kernel_rfl) (by kernel_rfl)
def tbP:List zay:=(203,en3 dP dP dP (λp a e=>vb (zdn p a e)))::tbA
theorem yi2:∀e∈tbP,zae Tryz.prog e:=List.forall_mem_cons.2 ⟨zhq zck zck zck z6f,zj8⟩
def dtyP(t:TypeId):Bool:=Nat.beq t 77||Nat.beq t 34
def noD(_:Nat):Bool:=false
def tabP:Dyn.Tabs:=Dyn.tabs tbP [] noD dtyP
theorem zn8:Dyn.zal Tryz.prog tabP:=Dyn.zb0 yi2 (λ_ h=>by cases h)
def nxt(m k:Nat):Nat:=(((k:Int)+1).tmod (m:Int)).toNat
def zg6(l:Ctr)(f:P2->P2->Bool)(i k:Nat):Bool:=f (l.p i k) (l.p i (nxt (l.m i) k))
def oddF(p:P2)(l:Ctr):Bool:=parN (λi=>parN (zg6 l (zdn p) i) (l.m i)) l.n
def oddH(p:P2)(l:Ctr):List (Option Dyn.HE):=[some (.deep [cCtr l]),some (.cells 26 [vi p.x,vi p.y])]
def oddS(p:P2)(l:Ctr)(i:Int)(q:Bool):Dyn.St:=mkS 39 [(0,sV (pt p)),(1,sH 0 0 l.n),(2,sL 1),(4,.k (vb false)),(5,sB q),(10,sH 0 0 l.n),(11,sI l.n),(12,sI i)] (oddH p l)
def oddT(p:P2)(l:Ctr)(i j:Int)(q:Bool):Dyn.St:=mkS 39 [(0,sV (pt p)),(1,sH 0 0 l.n),(2,sL 1),(4,.k (vb false)),(5,sB q),(7,sH 2 0 (l.m i.toNat)),(10,sH 0 0 l.n),(11,sI l.n),(12,sI i),(16,sH 2 0 (l.m i.toNat)),(17,sI (l.m i.toNat)),(18,sI j)] (oddH p l++[some (.deep [cRow (l.m i.toNat) (l.p i.toNat)])])
def ym2:List Nat:=[0,1,2,4,5,10,11,12]
def ym1:List Nat:=[0,1,2,4,5,7,10,11,12,16,17,18]
def zu8(p:P2)(l:Ctr):Dyn.Lp:=λid s=>match id with
 |0=>some (.side [zml 39 [0,1] ym2 4128 s=oddS p l 0 false] (.leaf .normal (oddS p l l.n (oddF p l))))
 |2=>
  let i:=intD (s.slots.getD 12 .junk)
  let q:=boolD (s.slots.getD 5 .junk)
  some (.side [zml 39 [0,1,3] ym1 262144 s=oddT p l i 0 q,0<=i/\i<l.n] (.leaf .normal (oddT p l i (l.m i.toNat) (xor q (parN (zg6 l (zdn p) i.toNat) (l.m i.toNat))))))
 |_=>none
def ygq(p:P2)(l:Ctr)(i:Int)(k:Nat)(q:Bool):Dyn.Out:=
 let m:Int:=l.m i.toNat
 let r:Int:=(W ((k:Int)+1)).tmod m
 .ite (decide ((k:Int)<m)) (.side [0<=(k:Int)/\(k:Int)<m] (.side [m≠0,0<=r/\r<m]
  (.leaf .normal (oddT p l i (W ((k:Int)+1)) (bif zdn p (l.p i.toNat k) (l.p i.toNat r.toNat)then !q else q))))) (.leaf (.exit 2) (oddT p l i k q))
def ygr(p:P2)(l:Ctr)(k:Nat)(q:Bool):Dyn.Out:=
 .ite (decide ((k:Int)<l.n)) (.side [0<=(k:Int)/\(k:Int)<l.n] (.side [oddT p l k 0 q=oddT p l k 0 q,0<=(k:Int)/\(k:Int)<l.n]
  (.leaf .normal (oddS p l (W ((k:Int)+1)) (xor q (parN (zg6 l (zdn p) k) (l.m k))))))) (.leaf (.exit 0) (oddS p l k q))
theorem z5r:zam (zbx Tryz.f145.body)=[(0,.loop (zab (blkD Tryz.f145.body 0))),(1,blkD Tryz.f145.body 1),(2,.loop (zab (blkD Tryz.f145.body 2))),(3,blkD Tryz.f145.body 3)]:=by kernel_rfl
theorem odd_b0:zam (zab (blkD Tryz.f145.body 0))=[(1,blkD Tryz.f145.body 1),(2,.loop (zab (blkD Tryz.f145.body 2))),(3,blkD Tryz.f145.body 3)]:=by kernel_rfl
theorem odd_b2:zam (zab (blkD Tryz.f145.body 2))=[(3,blkD Tryz.f145.body 3)]:=by kernel_rfl
theorem odd_B1(p:P2)(l:Ctr)(i:Int)(k:Nat)(q:Bool):(Dyn.zbm Tryz.prog tabP (zu8 p l) 3 (zab (blkD Tryz.f145.body 2)) .leaf (oddT p l i k q)).rl (λ_=>zml 39 [0,1,2] ym1 0)=ygq p l i k q:=by kernel_rfl
theorem odd_B0(p:P2)(l:Ctr)(k:Nat)(q:Bool):(Dyn.zbm Tryz.prog tabP (zu8 p l) 3 (zab (blkD Tryz.f145.body 0)) .leaf (oddS p l k q)).rl (λ_=>zml 39 [0,1] ym2 0)=ygr p l k q:=by kernel_rfl
theorem z25{k m:Nat}(hk:k<m)(hm:m<=1000000000):W ((k:Int)+1)=((k+1:Nat):Int)/\(m:Int)≠0/\(0<=(W ((k:Int)+1)).tmod m/\(W ((k:Int)+1)).tmod m<m)/\((W ((k:Int)+1)).tmod m).toNat=nxt m k:=by
 have e:W ((k:Int)+1)=(k:Int)+1:=W_id (by omega) (by omega)
 rw[e]
 exact⟨by omega,by omega,⟨Int.tmod_nonneg _ (by omega),Int.tmod_lt_of_pos _ (by omega)⟩,rfl⟩
theorem yo0(c q:Bool):(bif c then !q else q)=xor q c:=by cases c<;>cases q<;>rfl
theorem zxq(p:P2)(l:Ctr)(hl:CtrB l)(w0:Dyn.Base Tryz.prog)(s:Dyn.St)(o:Dyn.Out)(h:zu8 p l 2 s=some o):Dyn.zai Tryz.prog w0 2 (.loop (zab (blkD Tryz.f145.body 2))) s o:=by
 simp only[zu8,Option.some.injEq]at h
 subst h
 refine zdv λhS hi=>?_
 revert hS hi
 generalize intD (s.slots.getD 12 .junk)=i
 generalize boolD (s.slots.getD 5 .junk)=q
 intro hS hi
 have hm:l.m i.toNat<=1000000000:=hl.2 _ (by omega)
 refine zg8 (fuel:=3) zn8 mo (lp:=zu8 p l) (by rw[odd_b2];exact zaa (λs o h=>by cases h) zao) (λk (q:Bool)=>oddT p l i k q) (l.m i.toNat) (λk q'=>q'=xor q (parN (zg6 l (zdn p) i.toNat) k))
  (λ_=>zml 39 [0,1,2] ym1 0) (λ_ s=>zdd 39 (by decide) _ 0 s) (λk q=>ygq p l i k q) (λe s=>e=.exit 2/\s=oddT p l i (l.m i.toNat) (xor q (parN (zg6 l (zdn p) i.toNat) (l.m i.toNat)))) (odd_B1 p l i) ?_ ?_
  (a0:=q) (by simp[parN]) (hS▸zdd 39 (by decide) _ _ s) ?_
 ·intro k q' hk hq
  subst hq
  obtain⟨e1,e2,e3,e4⟩:=z25 hk hm
  unfold ygq
  dsimp only
  have e5:(bif zdn p (l.p i.toNat k) (l.p i.toNat ((W ((k:Int)+1)).tmod (l.m i.toNat:Int)).toNat)then !(xor q (parN (zg6 l (zdn p) i.toNat) k))else xor q (parN (zg6 l (zdn p) i.toNat) k))=xor q (parN (zg6 l (zdn p) i.toNat) (k+1)):=by
   rw[yo0,e4,Bool.xor_assoc];rfl
  refine⟨λ_=>⟨⟨⟨by omega,by omega⟩,trivial⟩,⟨e2,e3,trivial⟩,⟨_,rfl,?_⟩⟩,λhf=>?_⟩
  ·rw[e5,e1];exact Dyn.Fits.refl _
  ·rw[decide_eq_false_iff_not]at hf;omega
 ·intro q' hq
  subst hq
  unfold ygq
  dsimp only
  refine⟨λht=>?_,λ_=>⟨rfl,rfl⟩⟩
  rw[decide_eq_true_eq]at ht;omega
 ·intro F hF ho e s hE
  obtain⟨rfl,rfl⟩:=hE
  dsimp only
  rw[if_pos rfl];exact ho
theorem yal(p:P2)(l:Ctr)(hl:CtrB l)(w0:Dyn.Base Tryz.prog)(s:Dyn.St)(o:Dyn.Out)(h:zu8 p l 0 s=some o):Dyn.zai Tryz.prog w0 0 (.loop (zab (blkD Tryz.f145.body 0))) s o:=by
 simp only[zu8,Option.some.injEq]at h
 subst h
 refine zcc λhS=>?_
 have hn:=hl.1
 refine zg8 (fuel:=3) zn8 mo (lp:=zu8 p l) (by rw[odd_b0];exact zaa (λs o h=>by cases h) (zaa (zxq p l hl w0) (zaa (λs o h=>by cases h) zao))) (λk (q:Bool)=>oddS p l k q) l.n (λk q'=>q'=parN (λi=>parN (zg6 l (zdn p) i) (l.m i)) k)
  (λ_=>zml 39 [0,1] ym2 0) (λ_ s=>zdd 39 (by decide) _ 0 s) (λk q=>ygr p l k q) (λe s=>e=.exit 0/\s=oddS p l l.n (oddF p l)) (odd_B0 p l) ?_ ?_
  (a0:=false) rfl (hS▸zdd 39 (by decide) _ _ s) ?_
 ·intro k q' hk hq
  subst hq
  have e1:W ((k:Int)+1)=((k+1:Nat):Int):=by rw[W_id (by omega) (by omega)];omega
  unfold ygr
  refine⟨λ_=>⟨⟨⟨by omega,by omega⟩,trivial⟩,⟨rfl,⟨by omega,by omega⟩,trivial⟩,⟨_,rfl,?_⟩⟩,λhf=>?_⟩
  ·rw[e1];exact Dyn.Fits.refl _
  ·rw[decide_eq_false_iff_not]at hf;omega
 ·intro q' hq
  subst hq
  unfold ygr
  refine⟨λht=>?_,λ_=>⟨rfl,rfl⟩⟩
  rw[decide_eq_true_eq]at ht;omega
 ·intro F hF ho e s hE
  obtain⟨rfl,rfl⟩:=hE
  dsimp only
  rw[if_pos rfl];exact ho
theorem odd_ok(p:P2)(l:Ctr)(hl:CtrB l):Dyn.zav Tryz.prog 145 [dvP p,dvC l] (rB (oddF p l)):=
 Dyn.zfl (lp:=zu8 p l) (fuel:=3) (X:=tabP) zn8 mo Tryz.func145 (by kernel_rfl) (c:=zbx Tryz.f145.body) (by kernel_rfl)
  (λw0=>by rw[z5r];exact zaa (yal p l hl w0) (zaa (λs o h=>by cases h) (zaa (zxq p l hl w0) (zaa (λs o h=>by cases h) zao))))
  (by kernel_rfl) (by kernel_rfl) (show _=[oddS p l 0 false=oddS p l 0 false]by kernel_rfl) ⟨rfl,trivial⟩
def zo8(b:B4)(l:Ctr):Bool:=anyN (λi=>anyN (zg6 l (zrp b) i) (l.m i)) l.n
def touH(b:B4)(l:Ctr):List (Option Dyn.HE):=[some (.deep [cCtr l]),some (.cells 114 [vi b.x0,vi b.y0,vi b.x1,vi b.y1])]
def touS(b:B4)(l:Ctr)(i:Int):Dyn.St:=mkS 35 [(0,sV (bx b)),(1,sH 0 0 l.n),(2,sL 1),(4,.k (vb false)),(9,sH 0 0 l.n),(10,sI l.n),(11,sI i)] (touH b l)
def touT(b:B4)(l:Ctr)(i j:Int):Dyn.St:=mkS 35 [(0,sV (bx b)),(1,sH 0 0 l.n),(2,sL 1),(4,.k (vb false)),(6,sH 2 0 (l.m i.toNat)),(9,sH 0 0 l.n),(10,sI l.n),(11,sI i),(15,sH 2 0 (l.m i.toNat)),(16,sI (l.m i.toNat)),(17,sI j)] (touH b l++[some (.deep [cRow (l.m i.toNat) (l.p i.toNat)])])
def touR:Dyn.St:=mkS 35 [(4,.k (vb true))] []
def ylc:List Nat:=[0,1,2,4,9,10,11]
def ylb:List Nat:=[0,1,2,4,6,9,10,11,15,16,17]
def zum(b:B4)(l:Ctr):Dyn.Lp:=λid s=>match id with
 |0=>some (.side [zml 35 [0,1] ylc 2048 s=touS b l 0] (.ite (zo8 b l) (.leaf .ret touR) (.leaf .normal (touS b l l.n))))
 |2=>
  let i:=intD (s.slots.getD 11 .junk)
  some (.side [zml 35 [0,1,3] ylb 131072 s=touT b l i 0,0<=i/\i<l.n] (.ite (anyN (zg6 l (zrp b) i.toNat) (l.m i.toNat)) (.leaf .ret touR) (.leaf .normal (touT b l i (l.m i.toNat)))))
 |_=>none
def retS(n:Nat)(σ ks:List Nat)(r:Nat):zcg->Dyn.St->Dyn.St
 |.ret,s=>zml n [] [r] 0 s
 |_,s=>zml n σ ks 0 s
theorem z2i{P:Program}{w0:Dyn.Base P}(n:Nat){σ:List Nat}(hσ:σ.Nodup)(ks:List Nat)(r:Nat)(e:zcg)(s:Dyn.St):Dyn.Ent w0 s (retS n σ ks r e s):=by
 cases e
 ·exact zdd n hσ ks 0 s
 ·exact zdd n hσ ks 0 s
 ·exact zdd n (by decide) [r] 0 s
def touB1(b:B4)(l:Ctr)(i:Int)(k:Nat):Dyn.Out:=
 let m:Int:=l.m i.toNat
 let r:Int:=(W ((k:Int)+1)).tmod m
 .ite (decide ((k:Int)<m)) (.side [0<=(k:Int)/\(k:Int)<m] (.side [m≠0,0<=r/\r<m]
  (.ite (zrp b (l.p i.toNat k) (l.p i.toNat r.toNat)) (.leaf .ret touR) (.leaf .normal (touT b l i (W ((k:Int)+1))))))) (.leaf (.exit 2) (touT b l i k))
def touB0(b:B4)(l:Ctr)(k:Nat):Dyn.Out:=
 .ite (decide ((k:Int)<l.n)) (.side [0<=(k:Int)/\(k:Int)<l.n] (.side [touT b l k 0=touT b l k 0,0<=(k:Int)/\(k:Int)<l.n]
  (.ite (anyN (zg6 l (zrp b) k) (l.m k)) (.leaf .ret touR) (.leaf .normal (touS b l (W ((k:Int)+1))))))) (.leaf (.exit 0) (touS b l k))
theorem tou_B1(b:B4)(l:Ctr)(i:Int)(k:Nat):(Dyn.zbm Tryz.prog tabP (zum b l) 3 (zab (blkD Tryz.f144.body 2)) .leaf (touT b l i k)).rl (retS 35 [0,1,2] ylb 4)=touB1 b l i k:=by kernel_rfl
theorem tou_B0(b:B4)(l:Ctr)(k:Nat):(Dyn.zbm Tryz.prog tabP (zum b l) 3 (zab (blkD Tryz.f144.body 0)) .leaf (touS b l k)).rl (retS 35 [0,1] ylc 4)=touB0 b l k:=by kernel_rfl
theorem z4o:zam (zbx Tryz.f144.body)=[(0,.loop (zab (blkD Tryz.f144.body 0))),(1,blkD Tryz.f144.body 1),(2,.loop (zab (blkD Tryz.f144.body 2))),(3,blkD Tryz.f144.body 3)]:=by kernel_rfl
theorem tou_b0:zam (zab (blkD Tryz.f144.body 0))=[(1,blkD Tryz.f144.body 1),(2,.loop (zab (blkD Tryz.f144.body 2))),(3,blkD Tryz.f144.body 3)]:=by kernel_rfl
theorem tou_b2:zam (zab (blkD Tryz.f144.body 2))=[(3,blkD Tryz.f144.body 3)]:=by kernel_rfl
theorem zwq(b:B4)(l:Ctr)(hl:CtrB l)(w0:Dyn.Base Tryz.prog)(s:Dyn.St)(o:Dyn.Out)(h:zum b l 2 s=some o):Dyn.zai Tryz.prog w0 2 (.loop (zab (blkD Tryz.f144.body 2))) s o:=by
 simp only[zum,Option.some.injEq]at h
 subst h
 refine zdv λhS hi=>?_
 revert hS hi
 generalize intD (s.slots.getD 11 .junk)=i
 intro hS hi
 have hm:l.m i.toNat<=1000000000:=hl.2 _ (by omega)
 refine zza (fuel:=3) zn8 mo (lp:=zum b l) (by rw[tou_b2];exact zaa (λs o h=>by cases h) zao) (λk=>touT b l i k) (l.m i.toNat) (zg6 l (zrp b) i.toNat) touR (retS 35 [0,1,2] ylb 4) (z2i 35 (by decide) _ _) (touB1 b l i) (tou_B1 b l i) (λk hk=>?_) ?_ (hS▸zdd 35 (by decide) _ _ s)
 ·obtain⟨e1,e2,e3,e4⟩:=z25 hk hm
  refine⟨λ_=>⟨⟨⟨by omega,by omega⟩,trivial⟩,⟨e2,e3,trivial⟩,λht=>.inr ⟨rfl,?_,rfl⟩,λhf=>.inl ⟨rfl,?_,?_⟩⟩,λhf=>?_⟩
  ·rw[e4]at ht;exact ht
  ·rw[e4]at hf;exact hf
  ·rw[e1];exact Dyn.Fits.refl _
  ·rw[decide_eq_false_iff_not]at hf;omega
 ·refine⟨λht=>?_,λ_=>⟨rfl,Dyn.Fits.refl _⟩⟩
  rw[decide_eq_true_eq]at ht;omega
theorem z7l(b:B4)(l:Ctr)(hl:CtrB l)(w0:Dyn.Base Tryz.prog)(s:Dyn.St)(o:Dyn.Out)(h:zum b l 0 s=some o):Dyn.zai Tryz.prog w0 0 (.loop (zab (blkD Tryz.f144.body 0))) s o:=by
 simp only[zum,Option.some.injEq]at h
 subst h
 refine zcc λhS=>?_
 have hn:=hl.1
 refine zza (fuel:=3) zn8 mo (lp:=zum b l) (by rw[tou_b0];exact zaa (λs o h=>by cases h) (zaa (zwq b l hl w0) (zaa (λs o h=>by cases h) zao))) (λk=>touS b l k) l.n (λi=>anyN (zg6 l (zrp b) i) (l.m i)) touR (retS 35 [0,1] ylc 4) (z2i 35 (by decide) _ _) (touB0 b l) (tou_B0 b l) (λk hk=>?_) ?_ (hS▸zdd 35 (by decide) _ _ s)
 ·have e1:W ((k:Int)+1)=((k+1:Nat):Int):=by rw[W_id (by omega) (by omega)];omega
  refine⟨λ_=>⟨⟨⟨by omega,by omega⟩,trivial⟩,⟨rfl,⟨by omega,by omega⟩,trivial⟩,λht=>.inr ⟨rfl,ht,rfl⟩,λhf=>.inl ⟨rfl,hf,?_⟩⟩,λhf=>?_⟩
  ·rw[e1];exact Dyn.Fits.refl _
  ·rw[decide_eq_false_iff_not]at hf;omega
 ·refine⟨λht=>?_,λ_=>⟨rfl,Dyn.Fits.refl _⟩⟩
  rw[decide_eq_true_eq]at ht;omega
theorem z4n(b:B4)(l:Ctr)(hl:CtrB l):Dyn.zav Tryz.prog 144 [dvX b,dvC l] (rB (bif zo8 b l then true else false)):=
 Dyn.zfl (lp:=zum b l) (fuel:=3) (X:=tabP) zn8 mo Tryz.func144 (by kernel_rfl) (c:=zbx Tryz.f144.body) (by kernel_rfl)
  (λw0=>by rw[z4o];exact zaa (z7l b l hl w0) (zaa (λs o h=>by cases h) (zaa (zwq b l hl w0) (zaa (λs o h=>by cases h) zao))))
  (by kernel_rfl) (by kernel_rfl) (show _=[touS b l 0=touS b l 0]by kernel_rfl) ⟨rfl,trivial⟩
def ymb(p:P2):B4:=⟨p.x,p.y,p.x,p.y⟩
theorem ykv(b:Bool):(bif b then true else false)=b:=by cases b<;>rfl
theorem zzm(b:B4)(l:Ctr)(hl:CtrB l):Dyn.zav Tryz.prog 144 [dvX b,dvC l] (rB (zo8 b l)):=by
 have:=z4n b l hl
 rwa [ykv]at this
def tbQ:List zay:=tbP
theorem tbQ_ok:∀e∈tbQ,zae Tryz.prog e:=yi2
def tdQ:List Dyn.zb2:=[(145,enPC λp l=>rB (oddF p l)),(144,enXC λb l=>rB (zo8 b l))]
theorem tdQ_ok:∀e∈tdQ,Dyn.zbu Tryz.prog e:=List.forall_mem_cons.2 ⟨yoa odd_ok,List.forall_mem_cons.2 ⟨yn5 zzm,λ_ h=>by cases h⟩⟩
def tabQ:Dyn.Tabs:=Dyn.tabs tbQ tdQ noD dtyP
theorem yly:Dyn.zal Tryz.prog tabQ:=Dyn.zb0 tbQ_ok tdQ_ok
def zbz(l:Ctr):Prop:=∀i,i<l.n->[cRow (l.m i) (l.p i)]=[cRow (l.m i) (l.p i)]
theorem zau(l:Ctr):zbz l:=λ_ _=>rfl
def zp7(p:P2)(l:Ctr):Bool:=orB (zo8 (ymb p) l) (oddF p l)
def zch(b:B4)(l:Ctr):Int:=bif zo8 b l then 1 else bif andB (zhc b ⟨b.x0,b.y0⟩) (oddF ⟨b.x0,b.y0⟩ l)then 2 else 0
theorem zxk(b:B4)(l:Ctr)(hl:CtrB l):Dyn.zav Tryz.prog 107 [dvX b,dvC l] (rI (zch b l)):=
 Dyn.zfl (lp:=Dyn.noLp) (fuel:=3) (X:=tabQ) yly mo Tryz.func107 (by kernel_rfl) (c:=zbx Tryz.f107.body) (by kernel_rfl) (λw0=>Dyn.zcl _ w0)
  (by kernel_rfl) (by kernel_rfl) (show _=[CtrB l,zbz l,zo8 b l=false->(some (zhc b ⟨b.x0,b.y0⟩)=some true/\True->Sym.allP [CtrB l,zbz l])]by kernel_rfl) ⟨hl,zau l,λ_ _=>⟨hl,zau l,trivial⟩,trivial⟩
def tamP(l:Ctr)(sm:Bool)(i k:Nat):P2:=⟨bif sm then(zdc (lPt (l.p i k)) 20).x else(lPt (l.p i k)).x,bif sm then(zdc (lPt (l.p i k)) 20).y else(lPt (l.p i k)).y⟩
def z4r(l:Ctr)(sm:Bool):Ctr:=⟨min l.n 4,λi=>min (l.m i) 12,tamP l sm⟩
def tabT:Dyn.Tabs:=Dyn.tabs tbA [] noD dtyP
theorem zzu:Dyn.zal Tryz.prog tabT:=Dyn.zb0 zj8 (λ_ h=>by cases h)
def tamF(l:Ctr)(sm:Bool)(i:Nat):List Dyn.DC:=[cRow (min (l.m i) 12) (tamP l sm i)]
def tamG(l:Ctr)(sm:Bool)(i:Nat)(k:Nat):List Dyn.DC:=cP (tamP l sm i k)
def ylw:List Nat:=[0,1,4,5,6]
def ylv:List Nat:=[0,1,4,5,6,7,8]
def szP(b n:Nat):Prop:=((n+1:Nat):Int)*(b:Int)<=140737488355328/\((n+1:Nat):Int)<=9223372036854775807
theorem zgn{b n:Nat}(hb:b<=1000)(hn:n<=1000000000):szP b n:=by
 refine⟨?_,by omega⟩
 have:(n+1)*b<=1000000001*1000:=Nat.mul_le_mul (by omega) hb
 have h2:((n+1:Nat):Int)*(b:Int)=(((n+1)*b:Nat):Int):=by rw[Int.natCast_mul]
 rw[h2];omega
theorem z4u:zam (zbx Tryz.f33.body)=[(0,.loop (zab (blkD Tryz.f33.body 0))),(1,blkD Tryz.f33.body 1),(2,.loop (zab (blkD Tryz.f33.body 2))),(3,blkD Tryz.f33.body 3)]:=by kernel_rfl
theorem tam_b0:zam (zab (blkD Tryz.f33.body 0))=[(1,blkD Tryz.f33.body 1),(2,.loop (zab (blkD Tryz.f33.body 2))),(3,blkD Tryz.f33.body 3)]:=by kernel_rfl
theorem tam_b2:zam (zab (blkD Tryz.f33.body 2))=[(3,blkD Tryz.f33.body 3)]:=by kernel_rfl
theorem zkz{a b:Prop}[Decidable a][Decidable b]:(bif decide a then decide b else false)=true↔a/\b:=by
 by_cases h:a<;>simp[h]
def nmCell(s:Dyn.St)(m j:Nat):Nat:=match s.heap.getD m none with
 |some (.cells _ cs)=>nmOf (.v (cs.getD j (.bool false)))
 |_=>0
def z0i(s:Dyn.St):List (Nat×Nat)->List Nat
 |[]=>[]
 |(m,j)::l=>nmCell s m j::z0i s l
def zvi(n:Nat)(σ hs:List Nat)(cl:List (Nat×Nat))(ks:List Nat)(v:Nat)(s:Dyn.St):Dyn.St:=
 match zxt (σ++yaq s hs++z0i s cl)with
 |true=>Dyn.zma (σ++yaq s hs++z0i s cl) ((2 ^ n-1) ^^^ zb4 ks) v s
 |false=>s
theorem zf2{P:Program}{w0:Dyn.Base P}(n:Nat)(σ hs:List Nat)(cl:List (Nat×Nat))(ks:List Nat)(v:Nat)(s:Dyn.St):Dyn.Ent w0 s (zvi n σ hs cl ks v s):=by
 unfold zvi
 split
 ·rename_i h;exact Dyn.Ent.label (zrk h) _ v s
 ·exact Dyn.Ent.refl w0 s
def zfc(n:Nat)(σ hs:List Nat)(cl:List (Nat×Nat))(ks σr r:List Nat):zcg->Dyn.St->Dyn.St
 |.ret,s=>zc2 n σr [] r 0 s
 |_,s=>zvi n σ hs cl ks 0 s
theorem zed{P:Program}{w0:Dyn.Base P}(n:Nat)(σ hs:List Nat)(cl:List (Nat×Nat))(ks σr r:List Nat)(e:zcg)(s:Dyn.St):Dyn.Ent w0 s (zfc n σ hs cl ks σr r e s):=by
 cases e
 ·exact zf2 n σ hs cl ks 0 s
 ·exact zf2 n σ hs cl ks 0 s
 ·exact za0 n σr [] r 0 s
structure Tn where
 mx:Bool
 my:Bool
 q:Int
 u:P2
abbrev tn(t:Tn):Value:=.agg ⟨[vb t.mx,vb t.my,vi t.q,vi t.u.x,vi t.u.y]⟩
def dT:Value->Option Tn|.agg ⟨[.bool a,.bool b,.int .i64 q,.int .i64 x,.int .i64 y]⟩=>some ⟨a,b,q,⟨x,y⟩⟩|_=>none
theorem dT_eq{v:Value}{x:Tn}(h:dT v=some x):v=tn x:=by
 unfold dT at h;split at h
 ·simp only[Option.some.injEq]at h;subst h;rfl
 ·cases h
def cT(t:Tn):List Dyn.DC:=[cB t.mx,cB t.my,cI t.q,cI t.u.x,cI t.u.y]
def dvT(t:Tn):Dyn.DV:=.agg (cT t)
def aT:Dyn.DV->Option Tn
 |.agg [.p (.bool a),.p (.bool b),.p (.int .i64 q),.p (.int .i64 x),.p (.int .i64 y)]=>some ⟨a,b,q,⟨x,y⟩⟩
 |_=>none
theorem aT_eq{d:Dyn.DV}{x:Tn}(h:aT d=some x):Dyn.DVLe d (dvT x):=by
 unfold aT at h;split at h
 ·simp only[Option.some.injEq]at h;subst h;exact Dyn.DVLe.refl _
 ·cases h
def quF(q:Int):Int:=band q 3
def zan(p:P2)(t:Tn):P2:=
 let x:=bif t.mx then W (0-p.x)else p.x
 let y:=bif t.my then W (0-p.y)else p.y
 let k:=quF t.q
 let x2:=bif k==1 then W (0-y)else bif k==2 then W (0-x)else bif k==3 then y else x
 let y2:=bif k==1 then x else bif k==2 then W (0-y)else bif k==3 then W (0-x)else y
 ⟨W (x2+t.u.x),W (y2+t.u.y)⟩
def zd0(p:P2):Bool:=andB (andB (andB (decide (p.x>=-536870912)) (decide (p.x<=536870912))) (decide (p.y>=-536870912))) (decide (p.y<=536870912))
def widF(r:Int):Bool:=andB (decide (r>=1)) (decide (r<=536870912))
def zek(was cls:Int)(add:Bool):Int:=
 bif orB (orB (orB (decide (was<0)) (decide (was>2))) (decide (cls<0))) (decide (cls>2))then 1 else
 bif cls==0 then was else bif andB (cls==2) add then 2 else bif cls==2 then 0 else bif andB add (was==2)then 2 else bif andB (!add) (was==0)then 0 else 1
def zct(p q:P2)(r:Int):B4:=⟨imax (W (imin p.x q.x-r)) (-536870912),imax (W (imin p.y q.y-r)) (-536870912),imin (W (imax p.x q.x+r)) 536870912,imin (W (imax p.y q.y+r)) 536870912⟩
def z93(a b:Int):Int:=bif decide (a>W (9223372036854775807-b))then 9223372036854775807 else W (a+b)
theorem ym5(p:P2):za2 Tryz.prog 49 [pt p] (vb (zd0 p)):=fnOk (fuel:=16) (zas zj8) mo Tryz.func49 (by kernel_rfl) (by kernel_rfl) (by kernel_rfl) (by kernel_rfl)
theorem ydv(r:Int):za2 Tryz.prog 50 [vi r] (vb (widF r)):=fnOk (fuel:=16) (zas zj8) mo Tryz.func50 (by kernel_rfl) (by kernel_rfl) (by kernel_rfl) (by kernel_rfl)
theorem yn0(a b:Int)(c:Bool):za2 Tryz.prog 72 [vi a,vi b,vb c] (vi (zek a b c)):=fnOk (fuel:=16) (zas zj8) mo Tryz.func72 (by kernel_rfl) (by kernel_rfl) (by kernel_rfl) (by kernel_rfl)
theorem yc6(p q:P2)(r:Int):za2 Tryz.prog 84 [pt p,pt q,vi r] (bx (zct p q r)):=fnOk (fuel:=16) (zas zj8) mo Tryz.func84 (by kernel_rfl) (by kernel_rfl) (by kernel_rfl) (by kernel_rfl)
theorem ymu(a b:Int):za2 Tryz.prog 99 [vi a,vi b] (vi (z93 a b)):=fnOk (fuel:=16) (zas zj8) mo Tryz.func99 (by kernel_rfl) (by kernel_rfl) (by kernel_rfl) (by kernel_rfl)
theorem zz4(q:Int):za2 Tryz.prog 19 [vi q] (vi (quF q)):=fnOk (fuel:=16) (zas zj8) mo Tryz.func19 (by kernel_rfl) (by kernel_rfl) (by kernel_rfl) (by kernel_rfl)
def tf0:List zay:=tbA
theorem tf0_ok:∀e∈tf0,zae Tryz.prog e:=zj8
def tf1:List zay:=(49,en1 dP (λp=>vb (zd0 p)))::(50,en1 dI (λp=>vb (widF p)))::tf0
theorem tf1_ok:∀e∈tf1,zae Tryz.prog e:=List.forall_mem_cons.2 ⟨zg4 zck ym5,List.forall_mem_cons.2 ⟨zg4 zdy ydv,tf0_ok⟩⟩
def tf2:List zay:=(72,en3 dI dI dB (λa b c=>vi (zek a b c)))::tf1
theorem tf2_ok:∀e∈tf2,zae Tryz.prog e:=List.forall_mem_cons.2 ⟨zhq zdy zdy dB_eq yn0,tf1_ok⟩
def tf3:List zay:=(84,en3 dP dP dI (λa b c=>bx (zct a b c)))::tf2
theorem tf3_ok:∀e∈tf3,zae Tryz.prog e:=List.forall_mem_cons.2 ⟨zhq zck zck zdy yc6,tf2_ok⟩
def tf4:List zay:=(99,en2 dI dI (λa b=>vi (z93 a b)))::tf3
theorem tf4_ok:∀e∈tf4,zae Tryz.prog e:=List.forall_mem_cons.2 ⟨zjx zdy zdy ymu,tf3_ok⟩
def tf5:List zay:=(19,en1 dI (λa=>vi (quF a)))::tf4
theorem yi0:∀e∈tf5,zae Tryz.prog e:=List.forall_mem_cons.2 ⟨zg4 zdy zz4,tf4_ok⟩
def plX(t:Tn):Bool:=!(t.mx==t.my)
def plQ(t:Tn):Int:=quF (bif t.my then W (quF t.q+2)else quF t.q)
theorem z7h(p:P2)(t:Tn):za2 Tryz.prog 11 [pt p,tn t] (pt (zan p t)):=fnOk (fuel:=16) (zas yi0) mo Tryz.func11 (by kernel_rfl) (by kernel_rfl) (by kernel_rfl) (by kernel_rfl)
def tf6:List zay:=(11,en2 dP dT (λa b=>pt (zan a b)))::tf5
theorem yiz:∀e∈tf6,zae Tryz.prog e:=List.forall_mem_cons.2 ⟨zjx zck dT_eq z7h,yi0⟩
def tf7:List zay:=tf6
theorem tf7_ok:∀e∈tf7,zae Tryz.prog e:=yiz
def tf8:List zay:=tf7
theorem tf8_ok:∀e∈tf8,zae Tryz.prog e:=tf7_ok
def tbF:List zay:=tf8
theorem zcy:∀e∈tbF,zae Tryz.prog e:=tf8_ok
structure Sh where
 k:Int
 a:P2
 b:P2
 c:P2
 r:Int
 l:Ctr
 n:Nat
 f:Nat->List Dyn.DC
def cS(s:Sh):List Dyn.DC:=[cI s.k,cI s.a.x,cI s.a.y,cI s.b.x,cI s.b.y,cI s.c.x,cI s.c.y,cI s.r,cCtr s.l,.row s.n s.f]
def dvS(s:Sh):Dyn.DV:=.agg (cS s)
inductive Shp where
 |nil
 |mk (k:Int) (a b c:P2) (r:Int) (l:Ctr) (n:Nat) (add:Nat->Bool) (sub:Nat->Shp)
def zbv(add:Bool)(s:Sh):List Dyn.DC:=cB add::cS s
def toSh:Shp->Sh
 |.nil=>⟨0,⟨0,0⟩,⟨0,0⟩,⟨0,0⟩,0,⟨0,λ_=>0,λ_ _=>⟨0,0⟩⟩,1,λ_=>[]⟩
 |.mk k a b c r l n add sub=>⟨k,a,b,c,r,l,n,λi=>zbv (add i) (toSh (sub i))⟩
abbrev Dec(α:Type):=Dyn.DV->Option (α×List Prop)
def zix{α:Type}(q:Dec α)(e:α->Dyn.DV)(p:α->Prop):Prop:=∀d x ps,q d=some (x,ps)->allP ps->Dyn.DVLe d (e x)/\p x
def qOf{α:Type}(a:Dyn.DV->Option α):Dec α:=λd=>match a d with
 |some x=>some (x,[])
 |none=>none
theorem z2o{α:Type}{a:Dyn.DV->Option α}{e:α->Dyn.DV}(h:∀{d x},a d=some x->Dyn.DVLe d (e x)):zix (qOf a) e (λ_=>True):=λd x ps hq _=>by
 unfold qOf at hq
 split at hq
 ·rename_i y hy
  simp only[Option.some.injEq,Prod.mk.injEq]at hq
  obtain⟨rfl,rfl⟩:=hq
  exact⟨h hy,trivial⟩
 ·cases hq
def qAnd{α:Type}(q:Dec α)(r:α->Prop):Dec α:=λd=>match q d with
 |some (x,ps)=>some (x,r x::ps)
 |none=>none
theorem zbl{α:Type}{q:Dec α}{e:α->Dyn.DV}{p r:α->Prop}(h:zix q e p):zix (qAnd q r) e (λx=>r x/\p x):=λd x ps hq hp=>by
 unfold qAnd at hq
 split at hq
 ·rename_i y ps' hy
  simp only[Option.some.injEq,Prod.mk.injEq]at hq
  obtain⟨rfl,rfl⟩:=hq
  obtain⟨h1,h2⟩:=h d _ _ hy hp.2
  exact⟨h1,hp.1,h2⟩
 ·cases hq
def qX:Dec B4:=qOf aX
def qI:Dec Int:=qOf aI
def qB:Dec Bool:=qOf aB
def qT:Dec Tn:=qOf aT
theorem zuz:zix qX dvX (λ_=>True):=z2o yde
theorem zz5:zix qI dvI (λ_=>True):=z2o yiq
theorem ygg:zix qB dvB (λ_=>True):=z2o aB_eq
theorem ymp:zix qT dvT (λ_=>True):=z2o aT_eq
def qC:Dec Ctr
 |.one (.row n f)=>some (z6c n f,[yoj n f])
 |_=>none
theorem ymq:zix qC dvC (λ_=>True):=λd x ps h hp=>by
 unfold qC at h;split at h
 ·simp only[Option.some.injEq,Prod.mk.injEq]at h
  obtain⟨rfl,rfl⟩:=h
  exact⟨⟨rfl,hp.1⟩,trivial⟩
 ·cases h
def en1D{α:Type}(q:Dec α)(F:α->Dyn.RV):List Dyn.DV->Option (Dyn.RV×List Prop)
 |[a]=>match q a with
  |some (x,ps)=>some (F x,ps)
  |none=>none
 |_=>none
def en2D{α β:Type}(q:Dec α)(q2:Dec β)(F:α->β->Dyn.RV):List Dyn.DV->Option (Dyn.RV×List Prop)
 |[a,b]=>match q a,q2 b with
  |some (x,ps),some (y,qs)=>some (F x y,ps++qs)
  |_,_=>none
 |_=>none
def en3D{α β γ:Type}(q:Dec α)(q2:Dec β)(q3:Dec γ)(F:α->β->γ->Dyn.RV):List Dyn.DV->Option (Dyn.RV×List Prop)
 |[a,b,c]=>match q a,q2 b,q3 c with
  |some (x,ps),some (y,qs),some (z,rs)=>some (F x y z,ps++qs++rs)
  |_,_,_=>none
 |_=>none
def en0R(r:Dyn.RV):List Dyn.DV->Option (Dyn.RV×List Prop)
 |[]=>some (r,[])
 |_=>none
theorem yof{P:Program}{K:Nat}{r:Dyn.RV}(h:Dyn.zav P K [] r):Dyn.zbu P (K,en0R r):=λargs r' ps hr hp=>by
 dsimp only at hr
 unfold en0R at hr
 split at hr
 ·simp only[Option.some.injEq,Prod.mk.injEq]at hr
  rw[←hr.1];exact h
 ·cases hr
theorem zfe{P:Program}{K:Nat}{α:Type}{q:Dec α}{e:α->Dyn.DV}{p:α->Prop}{F:α->Dyn.RV}(hq:zix q e p)(h:∀x,p x->Dyn.zav P K [e x] (F x)):Dyn.zbu P (K,en1D q F):=λargs r ps hr hp=>by
 dsimp only at hr
 unfold en1D at hr
 split at hr
 ·split at hr
  ·rename_i x ps' hx
   simp only[Option.some.injEq,Prod.mk.injEq]at hr
   obtain⟨rfl,rfl⟩:=hr
   obtain⟨h1,h2⟩:=hq _ _ _ hx hp
   exact zc5 (args:=[e x]) ⟨h1,trivial⟩ (h x h2)
  ·cases hr
 ·cases hr
theorem zgc{P:Program}{K:Nat}{α β:Type}{q:Dec α}{q2:Dec β}{e:α->Dyn.DV}{e2:β->Dyn.DV}{p:α->Prop}{p2:β->Prop}{F:α->β->Dyn.RV}(hq:zix q e p)(hq2:zix q2 e2 p2)(h:∀x y,p x->p2 y->Dyn.zav P K [e x,e2 y] (F x y)):Dyn.zbu P (K,en2D q q2 F):=λargs r ps hr hp=>by
 dsimp only at hr
 unfold en2D at hr
 split at hr
 ·split at hr
  ·rename_i x ps' y qs' hx hy
   simp only[Option.some.injEq,Prod.mk.injEq]at hr
   obtain⟨rfl,rfl⟩:=hr
   rw[zbp]at hp
   obtain⟨h1,h2⟩:=hq _ _ _ hx hp.1
   obtain⟨h3,h4⟩:=hq2 _ _ _ hy hp.2
   exact zc5 (args:=[e x,e2 y]) ⟨h1,h3,trivial⟩ (h x y h2 h4)
  ·cases hr
 ·cases hr
def aS:Dyn.DV->Option (Sh×List Prop)
 |.agg [.p (.int .i64 k),.p (.int .i64 a),.p (.int .i64 b),.p (.int .i64 c),.p (.int .i64 d),.p (.int .i64 e),.p (.int .i64 f),.p (.int .i64 r),.row nl fl,.row n g]=>some (⟨k,⟨a,b⟩,⟨c,d⟩,⟨e,f⟩,r,z6c nl fl,n,g⟩,[yoj nl fl])
 |_=>none
theorem aS_eq{d:Dyn.DV}{x:Sh}{ps:List Prop}(h:aS d=some (x,ps))(hp:allP ps):Dyn.DVLe d (dvS x):=by
 unfold aS at h;split at h
 ·simp only[Option.some.injEq,Prod.mk.injEq]at h
  obtain⟨rfl,rfl⟩:=h
  exact⟨rfl,rfl,rfl,rfl,rfl,rfl,rfl,rfl,⟨rfl,hp.1⟩,⟨rfl,λ_ _=>rfl⟩,trivial⟩
 ·cases h
def qS:Dec Sh:=aS
theorem zgt:zix qS dvS (λ_=>True):=λd x ps h hp=>⟨aS_eq h hp,trivial⟩
theorem cS_inj{s t:Sh}(h:cS s=cS t):s=t:=by
 have h2:(aS (.agg (cS s))).map (·.1)=(aS (.agg (cS t))).map (·.1):=by rw[h]
 have e:∀s:Sh,(aS (.agg (cS s))).map (·.1)=some s:=λs=>rfl
 rw[e,e]at h2
 exact Option.some.inj h2
theorem yd2:∀(s t:Shp),toSh s=toSh t->s=t:=by
 intro s
 induction s with
 |nil=>
  intro t h
  cases t with
  |nil=>rfl
  |mk k' a' b' c' r' l' n' add' sub'=>
   simp only[toSh,Sh.mk.injEq]at h
   have:=congrFun h.2.2.2.2.2.2.2 0
   cases this
 |mk k a b c r l n add sub ih=>
  intro t h
  cases t with
  |nil=>
   simp only[toSh,Sh.mk.injEq]at h
   have:=congrFun h.2.2.2.2.2.2.2 0
   cases this
  |mk k' a' b' c' r' l' n' add' sub'=>
   simp only[toSh,Sh.mk.injEq]at h
   obtain⟨rfl,rfl,rfl,rfl,rfl,rfl,rfl,hf⟩:=h
   have h1:∀i,add i=add' i/\sub i=sub' i:=λi=>by
    have:=congrFun hf i
    simp only[zbv,List.cons.injEq]at this
    refine⟨?_,ih i _ (cS_inj this.2)⟩
    have h2:cB (add i)=cB (add' i):=this.1
    simp only[cB,Dyn.DC.p.injEq,Value.bool.injEq]at h2
    exact h2
   have e1:add=add':=funext λi=>(h1 i).1
   have e2:sub=sub':=funext λi=>(h1 i).2
   rw[e1,e2]
instance:Inhabited Shp:=⟨.nil⟩
def ShB:Shp->Prop
 |.nil=>False
 |.mk _ _ _ _ _ l n _ sub=>CtrB l/\n<=1000000000/\∀i,i<n->ShB (sub i)
def SLe(x y:Sh):Prop:=x.k=y.k/\x.a=y.a/\x.b=y.b/\x.c=y.c/\x.r=y.r/\x.l=y.l/\x.n=y.n/\∀i,i<x.n->x.f i=y.f i
theorem SLe.refl(x:Sh):SLe x x:=⟨rfl,rfl,rfl,rfl,rfl,rfl,rfl,λ_ _=>rfl⟩
theorem SLe.dv{x y:Sh}(h:SLe x y):Dyn.DVLe (dvS x) (dvS y):=by
 obtain⟨k,a,b,c,r,l,n,f⟩:=x
 obtain⟨k',a',b',c',r',l',n',f'⟩:=y
 obtain⟨h1,h2,h3,h4,h5,h6,h7,h8⟩:=h
 dsimp only at h1 h2 h3 h4 h5 h6 h7 h8
 subst h1;subst h2;subst h3;subst h4;subst h5;subst h6;subst h7
 exact⟨rfl,rfl,rfl,rfl,rfl,rfl,rfl,rfl,Dyn.DCLe.refl _,⟨rfl,h8⟩,trivial⟩
noncomputable def ofSh(x:Sh):Shp:=Classical.epsilon λs=>toSh s=x\/((¬∃t,toSh t=x)/\ShB s/\SLe x (toSh s))
theorem za7(s:Shp):ofSh (toSh s)=s:=by
 have h:toSh (ofSh (toSh s))=toSh s\/((¬∃t,toSh t=toSh s)/\ShB (ofSh (toSh s))/\SLe (toSh s) (toSh (ofSh (toSh s)))):=Classical.epsilon_spec (p:=λt=>toSh t=toSh s\/((¬∃u,toSh u=toSh s)/\ShB t/\SLe (toSh s) (toSh t))) ⟨s,.inl rfl⟩
 rcases h with h|h
 ·exact yd2 _ _ h
 ·exact absurd ⟨s,rfl⟩ h.1
def PdS(x:Sh):Prop:=ShB (ofSh x)/\SLe x (toSh (ofSh x))
theorem zl0{s:Shp}(h:ShB s):PdS (toSh s):=by unfold PdS;rw[za7];exact⟨h,SLe.refl _⟩
def dtyS(t:TypeId):Bool:=dtyP t||Nat.beq t 37||Nat.beq t 35||Nat.beq t 79
def z4w:Dyn.Tabs:=Dyn.tabs tbF [] noD noD
theorem zp1:Dyn.zal Tryz.prog z4w:=Dyn.zb0 zcy (λ_ h=>by cases h)
def yfq:Dyn.Tabs:=Dyn.tabs tbF [] noD dtyS
theorem zuq:Dyn.zal Tryz.prog yfq:=Dyn.zb0 zcy (λ_ h=>by cases h)
def zeP(p:P2):Bool:=bif p.x==0 then bif p.y==0 then true else false else false
def zsl(s:Sh):Bool:=
 bif bif bif s.k != 2 then decide ((s.l.n:Int)>0)else false then true else bif s.k != 6 then decide ((s.n:Int)>0)else false then false
 else bif s.k==1 then bif zeP s.b then zeP s.c else false
 else bif bif s.k==3 then s.k==3 else s.k==4 then zeP s.c
 else bif bif s.k==2 then s.k==2 else s.k==6 then bif bif bif zeP s.a then zeP s.b else false then zeP s.c else false then s.r==0 else false
 else true
theorem yo1(s:Sh):Dyn.zav Tryz.prog 48 [dvS s] (rB (zsl s)):=
 Dyn.zfl (lp:=Dyn.noLp) (fuel:=3) (X:=z4w) zp1 mo Tryz.func48 (by kernel_rfl) (c:=zbx Tryz.f48.body) (by kernel_rfl) (λw0=>Dyn.zcl _ w0) (by kernel_rfl) (by kernel_rfl) (show _=[]by kernel_rfl) trivial
def ctgI(l:Ctr)(i:Nat)(k:Nat)(_:Unit):Bool×Unit:=(zd0 (l.p i k),())
def ctgO(l:Ctr)(i:Nat)(left:Int):Bool×Int:=
 bif decide ((l.m i:Int)>left)then(false,left)else((runN (ctgI l i) () (l.m i)).1,W (left-l.m i))
def zfg(l:Ctr):Bool:=(runN (ctgO l) 1000 l.n).1
def ctS(l:Ctr)(k:Int)(left:Int):Dyn.St:=mkS 33 [(0,sH 0 0 l.n),(2,.k (vb false)),(3,sI left),(8,sH 0 0 l.n),(9,sI l.n),(10,sI k)] [some (.deep [cCtr l])]
def ctT(l:Ctr)(k:Int)(left:Int)(j:Int):Dyn.St:=mkS 33 [(0,sH 0 0 l.n),(2,.k (vb false)),(3,sI left),(5,sH 1 0 (l.m k.toNat)),(8,sH 0 0 l.n),(9,sI l.n),(10,sI k),(22,sH 1 0 (l.m k.toNat)),(23,sI (l.m k.toNat)),(24,sI j)] [some (.deep [cCtr l]),some (.deep [cRow (l.m k.toNat) (l.p k.toNat)])]
def ctR:Dyn.St:=mkS 33 [(2,.k (vb false))] []
def ctK0:List Nat:=[0,2,3,8,9,10]
def ctK1:List Nat:=[0,2,3,5,8,9,10,22,23,24]
def ctLp(l:Ctr):Dyn.Lp:=λid s=>match id with
 |0=>some (.side [zml 33 [0] ctK0 (2 ^ 3+2 ^ 10) s=ctS l 0 1000] (.ite (zfg l) (.leaf .normal (ctS l l.n (runN (ctgO l) 1000 l.n).2)) (.leaf .ret ctR)))
 |2=>
  let k:=intD (s.slots.getD 10 .junk)
  let left:=intD (s.slots.getD 3 .junk)
  some (.side [zc2 33 [0] [5] ctK1 (2 ^ 24) s=ctT l k left 0,0<=k/\k<l.n] (.ite (runN (ctgI l k.toNat) () (l.m k.toNat)).1 (.leaf .normal (ctT l k left (l.m k.toNat))) (.leaf .ret ctR)))
 |_=>none
def ctB1(l:Ctr)(k:Int)(left:Int)(j:Nat):Dyn.Out:=
 .ite (decide ((j:Int)<l.m k.toNat)) (.side [0<=(j:Int)/\(j:Int)<l.m k.toNat] (.ite (!zd0 (l.p k.toNat j)) (.leaf .ret ctR) (.leaf .normal (ctT l k left (W (j+1)))))) (.leaf (.exit 2) (ctT l k left j))
def ctB0(l:Ctr)(k:Nat)(left:Int):Dyn.Out:=
 .ite (decide ((k:Int)<l.n)) (.side [0<=(k:Int)/\(k:Int)<l.n] (.ite (decide ((l.m k:Int)>left)) (.leaf .ret ctR) (.side [ctT l k (W (left-l.m k)) 0=ctT l k (W (left-l.m k)) 0,0<=(k:Int)/\(k:Int)<l.n]
  (.ite (runN (ctgI l k) () (l.m k)).1 (.leaf .normal (ctS l (W (k+1)) (W (left-l.m k)))) (.leaf .ret ctR))))) (.leaf (.exit 0) (ctS l k left))
theorem ct_B1(l:Ctr)(k left:Int)(j:Nat):(Dyn.zbm Tryz.prog yfq (ctLp l) 3 (zab (blkD Tryz.f51.body 2)) .leaf (ctT l k left j)).rl (zeu 33 [0] [5] ctK1 [2])=ctB1 l k left j:=by kernel_rfl
theorem ct_B0(l:Ctr)(k:Nat)(left:Int):(Dyn.zbm Tryz.prog yfq (ctLp l) 3 (zab (blkD Tryz.f51.body 0)) .leaf (ctS l k left)).rl (zeu 33 [0] [] ctK0 [2])=ctB0 l k left:=by kernel_rfl
theorem ycd:zam (zbx Tryz.f51.body)=[(0,.loop (zab (blkD Tryz.f51.body 0))),(1,blkD Tryz.f51.body 1),(2,.loop (zab (blkD Tryz.f51.body 2))),(3,blkD Tryz.f51.body 3)]:=by kernel_rfl
theorem ct_b0:zam (zab (blkD Tryz.f51.body 0))=[(1,blkD Tryz.f51.body 1),(2,.loop (zab (blkD Tryz.f51.body 2))),(3,blkD Tryz.f51.body 3)]:=by kernel_rfl
theorem ct_b2:zam (zab (blkD Tryz.f51.body 2))=[(3,blkD Tryz.f51.body 3)]:=by kernel_rfl
theorem z32(l:Ctr)(hl:CtrB l)(w0:Dyn.Base Tryz.prog)(s:Dyn.St)(o:Dyn.Out)(h:ctLp l 2 s=some o):Dyn.zai Tryz.prog w0 2 (.loop (zab (blkD Tryz.f51.body 2))) s o:=by
 simp only[ctLp,Option.some.injEq]at h
 subst h
 refine zdv λhS hi=>?_
 revert hS hi
 generalize intD (s.slots.getD 10 .junk)=k
 generalize intD (s.slots.getD 3 .junk)=left
 intro hS hi
 have hm:l.m k.toNat<=1000000000:=hl.2 _ (by omega)
 refine zfv (fuel:=3) zuq mo (lp:=ctLp l) (by rw[ct_b2];exact zaa (λs o h=>by cases h) zao) (λj (_:Unit)=>ctT l k left j) (l.m k.toNat) (ctgI l k.toNat) () (λ_=>ctR) (zeu 33 [0] [5] ctK1 [2]) (zcq 33 _ _ _ _) (λj _=>ctB1 l k left j) (λj _=>ct_B1 l k left j) (λj a hj ha=>?_) (λa ha=>?_) (hS▸za0 33 _ _ _ _ s)
 ·refine⟨λ_=>⟨⟨⟨by omega,by omega⟩,trivial⟩,λhn=>.inr ⟨rfl,?_,Dyn.Fits.refl _⟩,λhn=>.inl ⟨rfl,?_,?_⟩⟩,λhf=>?_⟩
  ·simpa [ctgI]using hn
  ·simpa [ctgI]using hn
  ·show Dyn.Fits (ctT l k left (W (j+1))) _
   rw[Wn1 hj hm];exact Dyn.Fits.refl _
  ·rw[decide_eq_false_iff_not]at hf;omega
 ·refine⟨λht=>?_,λ_=>⟨rfl,Dyn.Fits.refl _⟩⟩
  rw[decide_eq_true_eq]at ht;omega
theorem yh0(l:Ctr)(hl:CtrB l)(w0:Dyn.Base Tryz.prog)(s:Dyn.St)(o:Dyn.Out)(h:ctLp l 0 s=some o):Dyn.zai Tryz.prog w0 0 (.loop (zab (blkD Tryz.f51.body 0))) s o:=by
 simp only[ctLp,Option.some.injEq]at h
 subst h
 refine zcc λhS=>?_
 refine zfv (fuel:=3) zuq mo (lp:=ctLp l) (by rw[ct_b0];exact zaa (λs o h=>by cases h) (zaa (z32 l hl w0) (zaa (λs o h=>by cases h) zao))) (λk left=>ctS l k left) l.n (ctgO l) 1000 (λ_=>ctR) (zeu 33 [0] [] ctK0 [2]) (zcq 33 _ _ _ _) (λk left=>ctB0 l k left) (λk left=>ct_B0 l k left) (λk left hk ha=>?_) (λa ha=>?_) (hS▸zdd 33 (by decide) _ _ s)
 ·unfold ctgO
  refine⟨λ_=>⟨⟨⟨by omega,by omega⟩,trivial⟩,λhn=>.inr ⟨rfl,?_,Dyn.Fits.refl _⟩,λhn=>⟨⟨rfl,⟨by omega,by omega⟩,trivial⟩,λhx=>.inl ⟨rfl,?_,?_⟩,λhx=>.inr ⟨rfl,?_,Dyn.Fits.refl _⟩⟩⟩,λhf=>?_⟩
  ·rw[hn];rfl
  ·rw[hn];exact hx
  ·rw[hn]
   show Dyn.Fits (ctS l (W (k+1)) _) _
   rw[Wn1 hk hl.1];exact Dyn.Fits.refl _
  ·rw[hn];exact hx
  ·rw[decide_eq_false_iff_not]at hf;omega
 ·refine⟨λht=>?_,λ_=>⟨rfl,Dyn.Fits.refl _⟩⟩
  rw[decide_eq_true_eq]at ht;omega
theorem z07(l:Ctr)(hl:CtrB l):Dyn.zav Tryz.prog 51 [dvC l] (rB (zfg l)):=by
 have:=Dyn.zfl (args:=[dvC l]) (lp:=ctLp l) (fuel:=3) (X:=yfq) (v:=vb (bif zfg l then true else false)) (l:=[ctS l 0 1000=ctS l 0 1000]) zuq mo Tryz.func51 (by kernel_rfl) (c:=zbx Tryz.f51.body) (by kernel_rfl)
  (λw0=>by rw[ycd];exact zaa (yh0 l hl w0) (zaa (λs o h=>by cases h) (zaa (z32 l hl w0) (zaa (λs o h=>by cases h) zao))))
  (by kernel_rfl) (by kernel_rfl) (by kernel_rfl) ⟨rfl,trivial⟩
 rwa [ykv]at this
def mkSh(k:Int)(a b c:P2)(r:Int)(l:Ctr)(n:Nat)(add:Nat->Bool)(sh:Nat->Sh):Sh:=⟨k,a,b,c,r,l,n,λi=>zbv (add i) (sh i)⟩
def zqp(g:Sh->Int->Int->Bool×Int)(sh:Nat->Sh)(s:Sh)(forms left:Int):Bool×Int:=
 bif decide (left<1)then(false,left)else
 bif !(zsl s)then(false,W (left-1))else
 bif s.k==1 then(andB (zd0 s.a) (widF s.r),W (left-1))else
 bif s.k==2 then(zfg s.l,W (left-1))else
 bif s.k==3 then(andB (andB (zd0 s.a) (zd0 s.b)) (widF s.r),W (left-1))else
 bif s.k==4 then(andB (andB (andB (zd0 s.a) (zd0 s.b)) (widF s.r)) (!(bif s.a.x==s.b.x then bif s.a.y==s.b.y then true else false else false)),W (left-1))else
 bif s.k==5 then(andB (andB (andB (andB (zd0 s.a) (zd0 s.b)) (zd0 s.c)) (widF s.r)) (znf s.c s.a s.b),W (left-1))else
 bif s.k==6 then(bif decide (forms>=8)then(false,W (left-1))else runN (λi lf=>g (sh i) (W (forms+1)) lf) (W (left-1)) s.n)
 else(false,W (left-1))
def enV(Pd:Sh->Prop)(g:Sh->Int->Int->Bool×Int):List Dyn.LA->Dyn.Lent->Option (Value×List (List Value)×List Prop)
 |[.d u,.d v,.lp 0 0],[(t,[.int .i64 left])]=>match qS u,aI v,Nat.beq t 3 with
  |some (x,ps),some forms,true=>some (vb (g x forms left).1,[[vi (g x forms left).2]],Pd x::ps)
  |_,_,_=>none
 |_,_=>none
theorem z4i{P:Program}{K:Nat}{u u' v v':Dyn.DV}{l:List Dyn.LA}{lent:Dyn.Lent}{r:Value}{o:List (List Value)}(h1:Dyn.DVLe u u')(h2:Dyn.DVLe v v')(k:Dyn.zlq P K (.d u'::.d v'::l) lent r o):Dyn.zlq P K (.d u::.d v::l) lent r o:=λw F bs us hF hn hd hl hden=>k w F bs us hF hn hd hl (by
 cases us with
 |nil=>exact hden
 |cons x us=>cases us with
  |nil=>exact hden.2.elim
  |cons y us=>exact⟨Dyn.zjp h1 hden.1,Dyn.zjp h2 hden.2.1,hden.2.2⟩)
def VaOk(x:Sh)(g:Sh->Int->Int->Bool×Int):Prop:=∀forms left,Dyn.zlq Tryz.prog 34 [.d (dvS x),.d (dvI forms),.lp 0 0] [(3,[vi left])] (vb (g x forms left).1) [[vi (g x forms left).2]]
theorem enV_ok{Pd:Sh->Prop}{g:Sh->Int->Int->Bool×Int}(ih:∀x,Pd x->VaOk x g):Dyn.zjo Tryz.prog (34,enV Pd g):=λas' lent u out ps h hp=>by
 dsimp only at h
 unfold enV at h
 split at h
 ·rename_i t left
  split at h
  ·rename_i x ps' forms hx hf ht
   have ht':=Nat.eq_of_beq_eq_true ht
   subst ht'
   simp only[Option.some.injEq,Prod.mk.injEq]at h
   obtain⟨rfl,rfl,rfl⟩:=h
   exact z4i (zgt _ _ _ hx hp.2).1 (yiq hf) (ih x hp.1 forms left)
  ·cases h
 ·cases h
def tdV:List Dyn.zb2:=[(48,en1D qS λs=>rB (zsl s)),(51,en1D (qAnd qC CtrB) λl=>rB (zfg l))]
theorem tdV_ok:∀e∈tdV,Dyn.zbu Tryz.prog e:=List.forall_mem_cons.2 ⟨zfe zgt λs _=>yo1 s,List.forall_mem_cons.2 ⟨zfe (zbl ymq) λl h=>z07 l h.1,λ_ h=>by cases h⟩⟩
def drV(K:Nat):Bool:=Nat.beq K 34
def tabV(Pd:Sh->Prop)(g:Sh->Int->Int->Bool×Int):Dyn.Tabs:=Dyn.z4v tbF tdV [(34,enV Pd g)] drV dtyS false
theorem zzt{Pd:Sh->Prop}{g:Sh->Int->Int->Bool×Int}(ih:∀x,Pd x->VaOk x g):Dyn.zal Tryz.prog (tabV Pd g):=
 Dyn.zna zcy tdV_ok (List.forall_mem_cons.2 ⟨enV_ok ih,λ_ h=>by cases h⟩)
def vaG(g:Sh->Int->Int->Bool×Int)(sh:Nat->Sh)(forms:Int)(i:Nat)(left:Int):Bool×Int:=g (sh i) (W (forms+1)) left
def vaS(s:Sh)(forms left i:Int):Dyn.St:=mkF 123 [(1,sI forms),(2,sL 0),(6,.k (vb false)),(109,sH 1 9 s.n),(110,sI s.n),(111,sI i)] [some (.cells 3 [vi left]),some (.deep (cS s))] [(2,0)]
def vaR(left:Int):Dyn.St:=mkF 123 [(2,sL 0),(6,.k (vb false))] [some (.cells 3 [vi left])] [(2,0)]
def vaK:List Nat:=[1,2,6,109,110,111]
def vaLp(g:Sh->Int->Int->Bool×Int)(sh:Nat->Sh)(s:Sh)(forms left:Int):Dyn.Lp:=λid st=>match id with
 |1=>some (.side [zc2 123 [0,1] [] vaK (2 ^ 111) st=vaS s forms left 0] (.ite (runN (vaG g sh forms) left s.n).1 (.leaf .normal (vaS s forms (runN (vaG g sh forms) left s.n).2 s.n)) (.leaf .ret (vaR (runN (vaG g sh forms) left s.n).2))))
 |_=>none
def vaB(Pd:Sh->Prop)(g:Sh->Int->Int->Bool×Int)(sh:Nat->Sh)(s:Sh)(forms:Int)(i:Nat)(left:Int):Dyn.Out:=
 .ite (decide ((i:Int)<s.n)) (.side [0<=(i:Int)/\(i:Int)<s.n] (.side [Pd (sh i),zbz (sh i).l] (.ite (!(g (sh i) (W (forms+1)) left).1) (.leaf .ret (vaR (g (sh i) (W (forms+1)) left).2)) (.leaf .normal (vaS s forms (g (sh i) (W (forms+1)) left).2 (W (i+1))))))) (.leaf (.exit 1) (vaS s forms left i))
theorem va_B(Pd:Sh->Prop)(g:Sh->Int->Int->Bool×Int)(k:Int)(a b c:P2)(r:Int)(l:Ctr)(n:Nat)(add:Nat->Bool)(sh:Nat->Sh)(forms l0:Int)(i:Nat)(left:Int) :
  (Dyn.zbm Tryz.prog (tabV Pd g) (vaLp g sh (mkSh k a b c r l n add sh) forms l0) 3 (zab (blkD Tryz.f34.body 1)) .leaf (vaS (mkSh k a b c r l n add sh) forms left i)).rl (yhh 123 [0,1] [] vaK [0] [2,6])=vaB Pd g sh (mkSh k a b c r l n add sh) forms i left:=by kernel_rfl
theorem z67:zam (zbx Tryz.f34.body)=[(0,blkD Tryz.f34.body 0),(1,.loop (zab (blkD Tryz.f34.body 1))),(2,blkD Tryz.f34.body 2)]:=by kernel_rfl
theorem va_b1:zam (zab (blkD Tryz.f34.body 1))=[(2,blkD Tryz.f34.body 2)]:=by kernel_rfl
theorem yk7{Pd:Sh->Prop}{g:Sh->Int->Int->Bool×Int}(ih:∀x,Pd x->VaOk x g)(k:Int)(a b c:P2)(r:Int)(l:Ctr)(n:Nat)(add:Nat->Bool)(sh:Nat->Sh)(hn:n<=1000000000)(hP:∀i,i<n->Pd (sh i))(forms l0:Int)(w0:Dyn.Base Tryz.prog)(s:Dyn.St)(o:Dyn.Out)
  (h:vaLp g sh (mkSh k a b c r l n add sh) forms l0 1 s=some o):Dyn.zai Tryz.prog w0 1 (.loop (zab (blkD Tryz.f34.body 1))) s o:=by
 simp only[vaLp,Option.some.injEq]at h
 subst h
 refine zcc λhS=>?_
 refine zfv (fuel:=3) (zzt ih) mo (lp:=vaLp g sh (mkSh k a b c r l n add sh) forms l0) (by rw[va_b1];exact zaa (λs o h=>by cases h) zao) (λi left=>vaS (mkSh k a b c r l n add sh) forms left i) n (vaG g sh forms) l0 vaR (yhh 123 [0,1] [] vaK [0] [2,6]) (zx5 123 _ _ _ _ _) (λi left=>vaB Pd g sh (mkSh k a b c r l n add sh) forms i left) (λi left=>va_B Pd g k a b c r l n add sh forms l0 i left) (λi left hi ha=>?_) (λleft ha=>?_) (hS▸za0 123 _ _ _ _ s)
 ·refine⟨λ_=>⟨⟨⟨by omega,by show(i:Int)<(n:Int);omega⟩,trivial⟩,⟨hP i hi,zau _,trivial⟩,λhx=>.inr ⟨rfl,?_,Dyn.Fits.refl _⟩,λhx=>.inl ⟨rfl,?_,?_⟩⟩,λhf=>?_⟩
  ·simpa [vaG]using hx
  ·simpa [vaG]using hx
  ·rw[Wn1 hi hn];exact Dyn.Fits.refl _
  ·rw[decide_eq_false_iff_not]at hf
   exact absurd (show(i:Int)<(n:Int)by omega) hf
 ·refine⟨λht=>?_,λ_=>⟨rfl,Dyn.Fits.refl _⟩⟩
  rw[decide_eq_true_eq]at ht
  exact absurd (show(n:Int)<(n:Int)from ht) (by omega)
def vaO(g:Sh->Int->Int->Bool×Int)(sh:Nat->Sh)(s:Sh)(forms left:Int):Dyn.RX:=
 .ite (decide (left<1)) (.leaf (vb false) [[vi left]])
 (.side [zbz s.l] (.ite (!(zsl s)) (.leaf (vb false) [[vi (W (left-1))]])
 (.ite (s.k==1) (.leaf (vb (andB (zd0 s.a) (widF s.r))) [[vi (W (left-1))]])
 (.ite (s.k==2) (.side [CtrB s.l,zbz s.l] (.leaf (vb (zfg s.l)) [[vi (W (left-1))]]))
 (.ite (s.k==3) (.leaf (vb (andB (andB (zd0 s.a) (zd0 s.b)) (widF s.r))) [[vi (W (left-1))]])
 (.ite (s.k==4) (.leaf (vb (andB (andB (andB (zd0 s.a) (zd0 s.b)) (widF s.r)) (!(bif s.a.x==s.b.x then bif s.a.y==s.b.y then true else false else false)))) [[vi (W (left-1))]])
 (.ite (s.k==5) (.leaf (vb (andB (andB (andB (andB (zd0 s.a) (zd0 s.b)) (zd0 s.c)) (widF s.r)) (znf s.c s.a s.b))) [[vi (W (left-1))]])
 (.ite (s.k==6) (.ite (decide (forms>=8)) (.leaf (vb false) [[vi (W (left-1))]]) (.side [vaS s forms (W (left-1)) 0=vaS s forms (W (left-1)) 0] (.ite (runN (vaG g sh forms) (W (left-1)) s.n).1 (.leaf (vb true) [[vi (runN (vaG g sh forms) (W (left-1)) s.n).2]]) (.leaf (vb false) [[vi (runN (vaG g sh forms) (W (left-1)) s.n).2]]))))
 (.leaf (vb false) [[vi (W (left-1))]])))))))))
theorem va_O(Pd:Sh->Prop)(g:Sh->Int->Int->Bool×Int)(s:Sh)(sh:Nat->Sh)(forms left:Int):(Dyn.zsd Tryz.prog (tabV Pd g) (vaLp g sh s forms (W (left-1))) 3 Tryz.f34 [(3,[vi left])] [.d (dvS s),.d (dvI forms),.lp 0 0]).rx Tryz.prog [(3,[vi left])] Tryz.f34.results=vaO g sh s forms left:=by kernel_rfl
theorem va_sat(g:Sh->Int->Int->Bool×Int)(sh:Nat->Sh)(s:Sh)(hl:CtrB s.l)(forms left:Int):(vaO g sh s forms left).sat λu os=>u=vb (zqp g sh s forms left).1/\os=[[vi (zqp g sh s forms left).2]]:=by
 unfold zqp
 refine⟨λh=>?_,λh=>⟨⟨zau _,trivial⟩,λh1=>?_,λh1=>⟨λh2=>?_,λh2=>⟨λh3=>⟨⟨hl,zau _,trivial⟩,?_⟩,λh3=>⟨λh4=>?_,λh4=>⟨λh5=>?_,λh5=>⟨λh6=>?_,λh6=>⟨λh7=>⟨λh8=>?_,λh8=>⟨⟨rfl,trivial⟩,λh9=>?_,λh9=>?_⟩⟩,λh7=>?_⟩⟩⟩⟩⟩⟩⟩⟩
 ·rw[h];exact⟨rfl,rfl⟩
 ·rw[h,h1];exact⟨rfl,rfl⟩
 ·rw[h,h1,h2];exact⟨rfl,rfl⟩
 ·rw[h,h1,h2,h3];exact⟨rfl,rfl⟩
 ·rw[h,h1,h2,h3,h4];exact⟨rfl,rfl⟩
 ·rw[h,h1,h2,h3,h4,h5];exact⟨rfl,rfl⟩
 ·rw[h,h1,h2,h3,h4,h5,h6];exact⟨rfl,rfl⟩
 ·rw[h,h1,h2,h3,h4,h5,h6,h7,h8];exact⟨rfl,rfl⟩
 ·rw[h,h1,h2,h3,h4,h5,h6,h7,h8];exact⟨congrArg vb h9.symm,rfl⟩
 ·rw[h,h1,h2,h3,h4,h5,h6,h7,h8];exact⟨congrArg vb h9.symm,rfl⟩
 ·rw[h,h1,h2,h3,h4,h5,h6,h7];exact⟨rfl,rfl⟩
theorem z65{Pd:Sh->Prop}{g:Sh->Int->Int->Bool×Int}(ih:∀x,Pd x->VaOk x g)(k:Int)(a b c:P2)(r:Int)(l:Ctr)(n:Nat)(add:Nat->Bool)(sh:Nat->Sh)(hl:CtrB l)(hn:n<=1000000000)(hP:∀i,i<n->Pd (sh i))(forms left:Int) :
  Dyn.zlq Tryz.prog 34 [.d (dvS (mkSh k a b c r l n add sh)),.d (dvI forms),.lp 0 0] [(3,[vi left])] (vb (zqp g sh (mkSh k a b c r l n add sh) forms left).1) [[vi (zqp g sh (mkSh k a b c r l n add sh) forms left).2]]:=
 Dyn.zm3 (lp:=vaLp g sh (mkSh k a b c r l n add sh) forms (W (left-1))) (fuel:=3) (zzt ih) mo Tryz.func34 (by kernel_rfl) (c:=zbx Tryz.f34.body) (by kernel_rfl)
  (λw0=>by rw[z67];exact zaa (λs o h=>by cases h) (zaa (yk7 ih k a b c r l n add sh hn hP forms _ w0) (zaa (λs o h=>by cases h) zao)))
  (by kernel_rfl) (by kernel_rfl) (by kernel_rfl) (va_O Pd g _ sh forms left) (va_sat g sh _ hl forms left)
def zfs:Shp->Int->Int->Bool×Int
 |.nil,_,left=>(false,left)
 |.mk k a b c r l n add sub,forms,left=>
  bif decide (left<1)then(false,left)else
  bif !(zsl (toSh (.mk k a b c r l n add sub)))then(false,W (left-1))else
  bif k==1 then(andB (zd0 a) (widF r),W (left-1))else
  bif k==2 then(zfg l,W (left-1))else
  bif k==3 then(andB (andB (zd0 a) (zd0 b)) (widF r),W (left-1))else
  bif k==4 then(andB (andB (andB (zd0 a) (zd0 b)) (widF r)) (!(bif a.x==b.x then bif a.y==b.y then true else false else false)),W (left-1))else
  bif k==5 then(andB (andB (andB (andB (zd0 a) (zd0 b)) (zd0 c)) (widF r)) (znf c a b),W (left-1))else
  bif k==6 then(bif decide (forms>=8)then(false,W (left-1))else runN (λi lf=>zfs (sub i) (W (forms+1)) lf) (W (left-1)) n)
  else(false,W (left-1))
noncomputable def vE(x:Sh)(forms left:Int):Bool×Int:=zfs (ofSh x) forms left
theorem ydx(s:Shp)(forms left:Int):vE (toSh s) forms left=zfs s forms left:=by unfold vE;rw[za7]
theorem z4l(k:Int)(a b c:P2)(r:Int)(l:Ctr)(n:Nat)(add:Nat->Bool)(sub:Nat->Shp)(forms left:Int):zfs (.mk k a b c r l n add sub) forms left=zqp vE (λi=>toSh (sub i)) (toSh (.mk k a b c r l n add sub)) forms left:=by
 unfold zqp
 simp only[ydx]
 rfl
theorem ydw:∀s:Shp,ShB s->VaOk (toSh s) vE:=by
 intro s
 induction s with
 |nil=>intro h;exact h.elim
 |mk k a b c r l n add sub ih=>
  intro h forms left
  rw[ydx,z4l]
  exact z65 (Pd:=λx=>∃i,i<n/\x=toSh (sub i)) (λx hx=>by
   obtain⟨i,hi,rfl⟩:=hx
   exact ih i (h.2.2 i hi)) k a b c r l n add (λi=>toSh (sub i)) h.1 h.2.1 (λi hi=>⟨i,hi,rfl⟩) forms left
noncomputable def okE(x:Sh):Bool:=(vE x 0 1000).1
theorem va_all:∀x,PdS x->VaOk x vE:=λx hx forms left=>by
 have k:=ydw _ hx.1 forms left
 rw[show vE (toSh (ofSh x)) forms left=vE x forms left by unfold vE;rw[za7]]at k
 exact z4i (SLe.dv hx.2) (Dyn.DVLe.refl _) k
theorem zvu(x:Sh)(h:PdS x):Dyn.zav Tryz.prog 17 [dvS x] (rB (okE x)):=
 Dyn.zfl (lp:=Dyn.noLp) (fuel:=3) (zzt va_all) mo Tryz.func17 (by kernel_rfl) (c:=zbx Tryz.f17.body) (by kernel_rfl) (λw0=>Dyn.zcl _ w0) (by kernel_rfl) (by kernel_rfl) (show _=[PdS x,zbz x.l]by kernel_rfl) ⟨h,zau _,trivial⟩
def shV(nm off:Nat)(s:Sh):List Value:=[vi s.k,vi s.a.x,vi s.a.y,vi s.b.x,vi s.b.y,vi s.c.x,vi s.c.y,vi s.r,.slice (some ⟨nm,off,some 0⟩) s.l.n 0,.slice (some ⟨nm,off+1,some 0⟩) s.n 0]
theorem zby{r r':Dyn.RV}(h:r=r'):(Dyn.RO.leaf r).sat (λq=>Dyn.RVLe q r'):=by subst h;exact Dyn.RVLe.refl _
def hasF:Shp->P2->Bool
 |.nil,_=>false
 |.mk k a b c r l n add sub,p=>bif k==1 then zo0 p a r else bif k==2 then zp7 p l else bif k==3 then zjc p a b r else bif k==4 then zy3 p a b r else bif k==5 then zux p c a b r else
  (runN (λt (_:Bool)=>bif hasF (sub (n-1-t)) p then(false,add (n-1-t))else(true,false)) false n).2
def clG(g:Sh->B4->Int)(sh:Nat->Sh)(add:Nat->Bool)(b:B4)(i:Nat)(acc:Int):Int:=zek acc (g (sh i) b) (add i)
def zys(g:Sh->B4->Int)(sh:Nat->Sh)(add:Nat->Bool)(s:Sh)(b:B4):Int:=
 bif s.k==1 then zcr b s.a s.r else bif s.k==2 then zch b s.l else bif s.k==3 then zd2 b s.a s.b s.r else bif s.k==4 then zfr b s.a s.b s.r else bif s.k==5 then zda b s.c s.a s.b s.r else
 zax (clG g sh add b) 0 s.n
def ydo(x:Sh)(g:Sh->B4->Int):Prop:=∀b,Dyn.zav Tryz.prog 88 [dvS x,dvX b] (rI (g x b))
def tdK(Pd:Sh->Prop)(g:Sh->B4->Int):List Dyn.zb2:=[(107,en2D qX (qAnd qC CtrB) λb l=>rI (zch b l)),(88,en2D (qAnd qS Pd) qX λx b=>rI (g x b))]
def tabK(Pd:Sh->Prop)(g:Sh->B4->Int):Dyn.Tabs:=Dyn.tabs tbF (tdK Pd g) noD dtyS
theorem z8z{Pd:Sh->Prop}{g:Sh->B4->Int}(ih:∀x,Pd x->ydo x g):Dyn.zal Tryz.prog (tabK Pd g):=
 Dyn.zb0 zcy (List.forall_mem_cons.2 ⟨zgc zuz (zbl ymq) λp l _ h=>zxk p l h.1,List.forall_mem_cons.2 ⟨zgc (zbl zgt) zuz λx p h _=>ih x h.1 p,λ_ h=>by cases h⟩⟩)
def clS(s:Sh)(b:B4)(acc i:Int):Dyn.St:=mkS 73 [(2,sL 1),(3,sL 2),(4,.k (vi 0)),(5,sI acc),(57,sH 0 9 s.n),(58,sI s.n),(59,sI i)] [some (.deep (cS s)),some (.cells 37 (shV 0 8 s)),some (.cells 114 [vi b.x0,vi b.y0,vi b.x1,vi b.y1])]
def clK:List Nat:=[2,3,4,5,57,58,59]
def clLp(g:Sh->B4->Int)(sh:Nat->Sh)(add:Nat->Bool)(s:Sh)(b:B4):Dyn.Lp:=λid st=>match id with
 |1=>some (.side [zc2 73 [0,1,2] [] clK (2 ^ 5+2 ^ 59) st=clS s b 0 0] (.leaf .normal (clS s b (zax (clG g sh add b) 0 s.n) s.n)))
 |_=>none
def clB(Pd:Sh->Prop)(g:Sh->B4->Int)(sh:Nat->Sh)(add:Nat->Bool)(s:Sh)(b:B4)(i:Nat)(acc:Int):Dyn.Out:=
 .ite (decide ((i:Int)<s.n)) (.side [0<=(i:Int)/\(i:Int)<s.n] (.side [Pd (sh i),zbz (sh i).l] (.leaf .normal (clS s b (zek acc (g (sh i) b) (add i)) (W (i+1)))))) (.leaf (.exit 1) (clS s b acc i))
theorem cl_B(Pd:Sh->Prop)(g:Sh->B4->Int)(k:Int)(a b' c:P2)(r:Int)(l:Ctr)(n:Nat)(add:Nat->Bool)(sh:Nat->Sh)(b:B4)(i:Nat)(acc:Int) :
  (Dyn.zbm Tryz.prog (tabK Pd g) (clLp g sh add (mkSh k a b' c r l n add sh) b) 3 (zab (blkD Tryz.f88.body 1)) .leaf (clS (mkSh k a b' c r l n add sh) b acc i)).rl (zeu 73 [0,1,2] [] clK [])=clB Pd g sh add (mkSh k a b' c r l n add sh) b i acc:=by kernel_rfl
theorem ycu:zam (zbx Tryz.f88.body)=[(0,blkD Tryz.f88.body 0),(1,.loop (zab (blkD Tryz.f88.body 1))),(2,blkD Tryz.f88.body 2)]:=by kernel_rfl
theorem cl_b1:zam (zab (blkD Tryz.f88.body 1))=[(2,blkD Tryz.f88.body 2)]:=by kernel_rfl
theorem you{Pd:Sh->Prop}{g:Sh->B4->Int}(ih:∀x,Pd x->ydo x g)(k:Int)(a b' c:P2)(r:Int)(l:Ctr)(n:Nat)(add:Nat->Bool)(sh:Nat->Sh)(hn:n<=1000000000)(hP:∀i,i<n->Pd (sh i))(b:B4)(w0:Dyn.Base Tryz.prog)(s:Dyn.St)(o:Dyn.Out)
  (h:clLp g sh add (mkSh k a b' c r l n add sh) b 1 s=some o):Dyn.zai Tryz.prog w0 1 (.loop (zab (blkD Tryz.f88.body 1))) s o:=by
 simp only[clLp,Option.some.injEq]at h
 subst h
 refine zcc λhS=>?_
 refine za9 (fuel:=3) (z8z ih) mo (lp:=clLp g sh add (mkSh k a b' c r l n add sh) b) (by rw[cl_b1];exact zaa (λs o h=>by cases h) zao) (λi acc=>clS (mkSh k a b' c r l n add sh) b acc i) n (clG g sh add b) 0 (zeu 73 [0,1,2] [] clK []) (zcq 73 _ _ _ _) (λi acc=>clB Pd g sh add (mkSh k a b' c r l n add sh) b i acc) (λi acc=>cl_B Pd g k a b' c r l n add sh b i acc) (λi hi=>?_) ?_ (hS▸za0 73 _ _ _ _ s)
 ·refine⟨λ_=>⟨⟨⟨by omega,by show(i:Int)<(n:Int);omega⟩,trivial⟩,⟨hP i hi,zau _,trivial⟩,rfl,?_⟩,λhf=>?_⟩
  ·rw[Wn1 hi hn];exact Dyn.Fits.refl _
  ·rw[decide_eq_false_iff_not]at hf
   exact absurd (show(i:Int)<(n:Int)by omega) hf
 ·refine⟨λht=>?_,λ_=>⟨rfl,Dyn.Fits.refl _⟩⟩
  rw[decide_eq_true_eq]at ht
  exact absurd (show(n:Int)<(n:Int)from ht) (by omega)
def clO(g:Sh->B4->Int)(sh:Nat->Sh)(add:Nat->Bool)(s:Sh)(b:B4):Dyn.RO:=
 .ite (s.k==1) (.leaf (rI (zcr b s.a s.r)))
 (.ite (s.k==2) (.side [CtrB s.l,zbz s.l] (.leaf (rI (zch b s.l))))
 (.ite (s.k==3) (.leaf (rI (zd2 b s.a s.b s.r)))
 (.ite (s.k==4) (.leaf (rI (zfr b s.a s.b s.r)))
 (.ite (s.k==5) (.leaf (rI (zda b s.c s.a s.b s.r)))
 (.side [clS s b 0 0=clS s b 0 0] (.leaf (rI (zax (clG g sh add b) 0 s.n))))))))
theorem cl_O(Pd:Sh->Prop)(g:Sh->B4->Int)(sh:Nat->Sh)(add:Nat->Bool)(s:Sh)(b:B4):(Dyn.dfun Tryz.prog (tabK Pd g) (clLp g sh add s b) 3 Tryz.f88 [dvS s,dvX b]).ro Tryz.prog Tryz.f88.results=clO g sh add s b:=by kernel_rfl
theorem cl_sat(g:Sh->B4->Int)(sh:Nat->Sh)(add:Nat->Bool)(s:Sh)(hl:CtrB s.l)(b:B4):(clO g sh add s b).sat λr=>Dyn.RVLe r (rI (zys g sh add s b)):=by
 unfold zys
 refine⟨λh=>?_,λh=>⟨λh2=>⟨⟨hl,zau _,trivial⟩,?_⟩,λh2=>⟨λh3=>?_,λh3=>⟨λh4=>?_,λh4=>⟨λh5=>?_,λh5=>⟨⟨rfl,trivial⟩,?_⟩⟩⟩⟩⟩⟩
 ·rw[h];exact zby rfl
 ·rw[h,h2];exact zby rfl
 ·rw[h,h2,h3];exact zby rfl
 ·rw[h,h2,h3,h4];exact zby rfl
 ·rw[h,h2,h3,h4,h5];exact zby rfl
 ·rw[h,h2,h3,h4,h5];exact zby rfl
theorem ycs{Pd:Sh->Prop}{g:Sh->B4->Int}(ih:∀x,Pd x->ydo x g)(k:Int)(a b' c:P2)(r:Int)(l:Ctr)(n:Nat)(add:Nat->Bool)(sh:Nat->Sh)(hl:CtrB l)(hn:n<=1000000000)(hP:∀i,i<n->Pd (sh i))(b:B4) :
  Dyn.zav Tryz.prog 88 [dvS (mkSh k a b' c r l n add sh),dvX b] (rI (zys g sh add (mkSh k a b' c r l n add sh) b)):=
 Dyn.zbs (lp:=clLp g sh add (mkSh k a b' c r l n add sh) b) (fuel:=3) (z8z ih) mo Tryz.func88 (by kernel_rfl) (c:=zbx Tryz.f88.body) (by kernel_rfl)
  (λw0=>by rw[ycu];exact zaa (λs o h=>by cases h) (zaa (you ih k a b' c r l n add sh hn hP b w0) (zaa (λs o h=>by cases h) zao)))
  (by kernel_rfl) (cl_O Pd g sh add _ b) (cl_sat g sh add _ hl b)
def zf7:Shp->B4->Int
 |.nil,_=>0
 |.mk k a b' c r l n add sub,b=>bif k==1 then zcr b a r else bif k==2 then zch b l else bif k==3 then zd2 b a b' r else bif k==4 then zfr b a b' r else bif k==5 then zda b c a b' r else
  zax (λi acc=>zek acc (zf7 (sub i) b) (add i)) 0 n
noncomputable def zlx(x:Sh)(b:B4):Int:=zf7 (ofSh x) b
theorem zsf(s:Shp)(b:B4):zlx (toSh s) b=zf7 s b:=by unfold zlx;rw[za7]
theorem z6n(k:Int)(a b' c:P2)(r:Int)(l:Ctr)(n:Nat)(add:Nat->Bool)(sub:Nat->Shp)(b:B4):zf7 (.mk k a b' c r l n add sub) b=zys zlx (λi=>toSh (sub i)) add (toSh (.mk k a b' c r l n add sub)) b:=by
 unfold zys clG
 simp only[zsf]
 rfl
theorem yic:∀s:Shp,ShB s->ydo (toSh s) zlx:=by
 intro s
 induction s with
 |nil=>intro h;exact h.elim
 |mk k a b' c r l n add sub ih=>
  intro h b
  rw[zsf,z6n]
  exact ycs (Pd:=λx=>∃i,i<n/\x=toSh (sub i)) (λx hx=>by
   obtain⟨i,hi,rfl⟩:=hx
   exact ih i (h.2.2 i hi)) k a b' c r l n add (λi=>toSh (sub i)) h.1 h.2.1 (λi hi=>⟨i,hi,rfl⟩) b
theorem yct:∀x,PdS x->ydo x zlx:=λx hx b=>by
 have k:=yic _ hx.1 b
 rw[show zlx (toSh (ofSh x)) b=zlx x b by unfold zlx;rw[za7]]at k
 exact zc5 (args:=dvS (toSh (ofSh x))::[dvX b]) ⟨SLe.dv hx.2,Dyn.DVLe.refl _,trivial⟩ k
noncomputable def zin(x:Sh)(b:B4):Int:=bif !(okE x)then 0 else zlx x b
noncomputable def tdG:List Dyn.zb2:=[(17,en1D (qAnd qS PdS) λx=>rB (okE x)),(88,en2D (qAnd qS PdS) qX λx b=>rI (zlx x b))]
theorem tdG_ok:∀e∈tdG,Dyn.zbu Tryz.prog e:=List.forall_mem_cons.2 ⟨zfe (zbl zgt) λx h=>zvu x h.1,List.forall_mem_cons.2 ⟨zgc (zbl zgt) zuz λx b h _=>yct x h.1 b,λ_ h=>by cases h⟩⟩
noncomputable def tabG:Dyn.Tabs:=Dyn.tabs tbF tdG noD noD
theorem yl4:Dyn.zal Tryz.prog tabG:=Dyn.zb0 zcy tdG_ok
theorem z0u(x:Sh)(h:PdS x)(b:B4):Dyn.zav Tryz.prog 73 [dvS x,dvX b] (rI (zin x b)):=
 Dyn.zfl (lp:=Dyn.noLp) (fuel:=3) yl4 mo Tryz.func73 (by kernel_rfl) (c:=zbx Tryz.f73.body) (by kernel_rfl) (λw0=>Dyn.zcl _ w0) (by kernel_rfl) (by kernel_rfl) (show _=[PdS x,zbz x.l,(!(okE x))=false->PdS x,(!(okE x))=false->zbz x.l]by kernel_rfl) ⟨h,zau _,λ_=>h,λ_=>zau _,trivial⟩
def ShW:Shp->Prop
 |.nil=>False
 |.mk _ _ _ _ _ _ n _ sub=>∀i,i<n->ShW (sub i)
def smL(l:Ctr)(i:Nat)(_:Unit):Bool×Unit:=(!(decide ((l.m i:Int)>40)),())
def smP(g:Sh->Int->Bool)(sh:Nat->Sh)(deep:Int)(i:Nat)(_:Unit):Bool×Unit:=(g (sh i) (W (deep+1)),())
def zwx(g:Sh->Int->Bool)(sh:Nat->Sh)(s:Sh)(deep:Int):Bool:=
 bif bif bif decide ((s.n:Int)>12)then true else decide ((s.l.n:Int)>12)then true else decide (deep>12)then false else
 bif (runN (smL s.l) () s.l.n).1 then(runN (smP g sh deep) () s.n).1 else false
def tdSm(Pd:Sh->Prop)(g:Sh->Int->Bool):List Dyn.zb2:=[(14,en2D (qAnd qS Pd) qI λx d=>rB (g x d))]
def smR:Dyn.St:=mkS 52 [(4,.k (vb false))] []
def smK0:List Nat:=[1,2,4,5]
def smK1:List Nat:=[1,2,4,6]
theorem z9f:zam (zbx Tryz.f14.body)=[(0,.loop (zab (blkD Tryz.f14.body 0))),(1,blkD Tryz.f14.body 1),(2,.loop (zab (blkD Tryz.f14.body 2))),(3,blkD Tryz.f14.body 3)]:=by kernel_rfl
theorem sm_b0:zam (zab (blkD Tryz.f14.body 0))=[(1,blkD Tryz.f14.body 1)]:=by kernel_rfl
theorem sm_b2:zam (zab (blkD Tryz.f14.body 2))=[(3,blkD Tryz.f14.body 3)]:=by kernel_rfl
def yf4(s:Sh)(deep:Int):Bool:=bif bif decide ((s.n:Int)>12)then true else decide ((s.l.n:Int)>12)then true else decide (deep>12)
def zqx:Shp->Int->Bool
 |.nil,_=>false
 |.mk _ _ _ _ _ l n _ sub,deep=>
  bif bif bif decide ((n:Int)>12)then true else decide ((l.n:Int)>12)then true else decide (deep>12)then false else
  bif (runN (smL l) () l.n).1 then(runN (λi (_:Unit)=>(zqx (sub i) (W (deep+1)),())) () n).1 else false
noncomputable def zj9(x:Sh)(d:Int):Bool:=zqx (ofSh x) d
theorem zqy(s:Shp)(d:Int):zj9 (toSh s) d=zqx s d:=by unfold zj9;rw[za7]
theorem z40(k:Int)(a b c:P2)(r:Int)(l:Ctr)(n:Nat)(add:Nat->Bool)(sub:Nat->Shp)(d:Int):zqx (.mk k a b c r l n add sub) d=zwx zj9 (λi=>toSh (sub i)) (toSh (.mk k a b c r l n add sub)) d:=by
 unfold zwx smP
 simp only[zqy]
 rfl
def PdW(x:Sh):Prop:=ShW (ofSh x)/\SLe x (toSh (ofSh x))
theorem yky{s:Shp}(h:ShW s):PdW (toSh s):=by unfold PdW;rw[za7];exact⟨h,SLe.refl _⟩
theorem znd{α:Type}{g:Nat->α->Bool×α}{a:α}:∀{n:Nat},(runN g a n).1=true->∀k,k<n->∃b,runN g a k=(true,b)/\(g k b).1=true
 |0,_=>λk hk=>by omega
 |n+1,h=>λk hk=>by
  have hn:(runN g a n).1=true:=by
   cases hr:runN g a n with
   |mk q b=>cases q with
    |true=>rfl
    |false=>rw[znc hr (Nat.le_succ n)]at h;cases h
  rcases Nat.lt_or_eq_of_le (Nat.le_of_lt_succ hk)with hlt|rfl
  ·exact znd hn k hlt
  ·cases hr:runN g a k with
   |mk q b=>
    rw[hr]at hn
    simp only at hn;subst hn
    exact⟨b,rfl,by rw[zq3 hr]at h;exact h⟩
theorem yme:∀(s:Shp) (d:Int),zqx s d=true->ShB s:=by
 intro s
 induction s with
 |nil=>intro d h;cases h
 |mk k a b c r l n add sub ih=>
  intro d h
  unfold zqx at h
  by_cases h1:((n:Int)>12)
  ·rw[decide_eq_true h1]at h;cases h
  ·by_cases h2:((l.n:Int)>12)
   ·rw[decide_eq_true h2,decide_eq_false h1]at h;cases h
   ·by_cases h3:(d>12)
    ·rw[decide_eq_true h3,decide_eq_false h1,decide_eq_false h2]at h;cases h
    ·rw[decide_eq_false h1,decide_eq_false h2,decide_eq_false h3]at h
     simp only[cond_false]at h
     cases hl:(runN (smL l) () l.n).1 with
     |false=>rw[hl]at h;cases h
     |true=>
      rw[hl]at h
      simp only[cond_true]at h
      refine⟨⟨by omega,λi hi=>?_⟩,by omega,λi hi=>?_⟩
      ·obtain⟨_,_,hx⟩:=znd hl i hi
       unfold smL at hx
       simp only[Bool.not_eq_true',decide_eq_false_iff_not]at hx
       omega
      ·obtain⟨_,_,hx⟩:=znd h i hi
       exact ih i _ hx
end Go.Proofs.YtmekpbopoknigaaGreatDoor
namespace Go.Proofs.YtmekpbopoknigaaGreatDoor
open Go Go.RowKit
theorem zqz(x:Int):sh32 x=x/4294967296:=by
 unfold sh32
 have:(2:Int) ^ min (Int.toNat 32) 64=4294967296:=by decide
 rw[this,Int.fdiv_eq_ediv_of_nonneg _ (by decide)]
theorem z0n{x:Int}(h0:0<=x)(h1:x<18446744073709551616):lo32 x=x%4294967296:=by
 have e:(BitVec.ofInt 64 x &&& BitVec.ofInt 64 4294967295).toNat=x.toNat%4294967296:=by
  rw[BitVec.toNat_and]
  have a:(BitVec.ofInt 64 4294967295).toNat=2 ^ 32-1:=by decide
  have b:(BitVec.ofInt 64 x).toNat=x.toNat:=by
   rw[BitVec.toNat_ofInt]
   have:((2 ^ 64:Nat):Int)=18446744073709551616:=by decide
   rw[this,Int.emod_eq_of_lt h0 h1]
  rw[a,b,Nat.and_two_pow_sub_one_eq_mod]
 unfold lo32 u64
 rw[e,U_id (by omega) (by omega)]
 omega
theorem z56(x y:Int):x*y=(x/4294967296*(y/4294967296))*18446744073709551616+(x/4294967296*(y%4294967296)+x%4294967296*(y/4294967296))*4294967296+x%4294967296*(y%4294967296):=by
 have a:=Int.emod_add_mul_ediv x 4294967296
 have b:=Int.emod_add_mul_ediv y 4294967296
 generalize x/4294967296=p at *
 generalize y/4294967296=q at *
 generalize x%4294967296=s at *
 generalize y%4294967296=t at *
 subst a b
 grind
theorem zvm{x y:Int}(h0:0<=x)(h1:x<=4294967295)(h2:0<=y)(h3:y<=4294967295):0<=x*y/\x*y<=18446744065119617025:=by
 have a:=Int.mul_nonneg h0 h2
 have b:=(zid (A:=4294967295) (B:=4294967295) (x:=x) (y:=y) (by omega) h1 (by omega) h3).2
 have e:(4294967295:Int)*4294967295=18446744065119617025:=by decide
 omega
structure In64(x:Int):Prop where
 lo:0<=x
 hi:x<18446744073709551616
theorem yg0{x y:Int}(hx:In64 x)(hy:In64 y):yav x y=x*y/18446744073709551616:=by
 obtain⟨x0,x1⟩:=hx;obtain⟨y0,y1⟩:=hy
 unfold yav
 rw[z0n x0 x1,z0n y0 y1,zqz x,zqz y]
 have e:=z56 x y
 have a:=zvm (x:=x%4294967296) (y:=y%4294967296) (by omega) (by omega) (by omega) (by omega)
 have b:=zvm (x:=x/4294967296) (y:=y%4294967296) (by omega) (by omega) (by omega) (by omega)
 have c:=zvm (x:=x%4294967296) (y:=y/4294967296) (by omega) (by omega) (by omega) (by omega)
 have d:=zvm (x:=x/4294967296) (y:=y/4294967296) (by omega) (by omega) (by omega) (by omega)
 rw[e]
 generalize x%4294967296*(y%4294967296)=A at *
 generalize x/4294967296*(y%4294967296)=B at *
 generalize x%4294967296*(y/4294967296)=C at *
 generalize x/4294967296*(y/4294967296)=D at *
 dsimp only
 rw[U_id (x:=A) (by omega) (by omega),U_id (x:=B) (by omega) (by omega),U_id (x:=C) (by omega) (by omega),U_id (x:=D) (by omega) (by omega),zqz A]
 rw[U_id (x:=B+A/4294967296) (by omega) (by omega)]
 rw[z0n (x:=B+A/4294967296) (by omega) (by omega),zqz (B+A/4294967296)]
 rw[U_id (x:=(B+A/4294967296)%4294967296+C) (by omega) (by omega),zqz ((B+A/4294967296)%4294967296+C)]
 rw[U_id (x:=D+(B+A/4294967296)/4294967296) (by omega) (by omega),U_id (by omega) (by omega)]
 omega
theorem z62{x y:Int}(hx:In64 x)(hy:In64 y):wmul x y=⟨x*y/18446744073709551616,x*y%18446744073709551616⟩:=by
 unfold wmul ygz
 rw[yg0 hx hy,U_eq]
theorem yk5{v:Int}(h0 : -9223372036854775808<=v)(h1:v<=9223372036854775807):wabs v=(v.natAbs:Int):=by
 unfold wabs
 by_cases h:v<0
 ·rw[decide_eq_true h,z1e,U_eq,U_eq];omega
 ·rw[decide_eq_false h,ziv,U_eq];omega
theorem z7a(x y:Int):ucmp x y=if x<y then -1 else if x>y then 1 else 0:=by
 unfold ucmp
 simp only[bne_self_eq_false,ziv]
 by_cases h:x<y
 ·rw[decide_eq_true h,z1e,if_pos h]
 ·rw[decide_eq_false h,ziv,if_neg h]
  by_cases h':x>y
  ·rw[decide_eq_true h',z1e,if_pos h']
  ·rw[decide_eq_false h',ziv,if_neg h']
theorem yk4(m n:Int):wcmp ⟨m/18446744073709551616,m%18446744073709551616⟩ ⟨n/18446744073709551616,n%18446744073709551616⟩<=0↔m<=n:=by
 unfold wcmp
 dsimp only
 by_cases h:m/18446744073709551616=n/18446744073709551616
 ·have:(m/18446744073709551616 != n/18446744073709551616)=false:=by simp[h]
  rw[this,ziv,z7a]
  split
  ·omega
  ·split<;>omega
 ·have:(m/18446744073709551616 != n/18446744073709551616)=true:=by simp[h]
  rw[this,z1e,z7a]
  split
  ·omega
  ·split<;>omega
theorem yat(v:Int):(v.natAbs:Int)*(v.natAbs:Int)=v*v:=by
 rcases Int.natAbs_eq v with h|h<;>grind
theorem wle{k x y:Int}(h0 : -9223372036854775808<=k)(h1:k<=9223372036854775807)(hx:In64 x)(hy:In64 y):decide (wcmp (wsq k) (wmul x y)<=0)=decide (k*k<=x*y):=by
 unfold wsq
 rw[yk5 h0 h1,z62 ⟨by omega,by omega⟩ ⟨by omega,by omega⟩,z62 hx hy,yat]
 exact decide_eq_decide.2 (yk4 _ _)
theorem yfy{x y z w:Int}(h1 : -2147483646<=x)(h2:x<=2147483646)(h3 : -2147483646<=y)(h4:y<=2147483646)(h5 : -2147483646<=z)(h6:z<=2147483646)(h7 : -2147483646<=w)(h8:w<=2147483646) :
  W (W (x*y)+W (z*w))=x*y+z*w/\W (W (x*y)-W (z*w))=x*y-z*w/\-9223372019674906632<=x*y+z*w/\x*y+z*w<=9223372019674906632/\-9223372019674906632<=x*y-z*w/\x*y-z*w<=9223372019674906632:=by
 have a:=zid (A:=2147483646) (B:=2147483646) h1 h2 h3 h4
 have b:=zid (A:=2147483646) (B:=2147483646) h5 h6 h7 h8
 have e:(2147483646:Int)*2147483646=4611686009837453316:=by decide
 rw[e]at a b
 rw[W_id (x:=x*y) (by omega) (by omega),W_id (x:=z*w) (by omega) (by omega),W_id (x:=x*y+z*w) (by omega) (by omega),W_id (x:=x*y-z*w) (by omega) (by omega)]
 omega
theorem df{u v:Int}(h1:In30 u)(h2:In30 v):W (u-v)=u-v/\-2147483646<=u-v/\u-v<=2147483646:=by
 obtain⟨a,b⟩:=h1;obtain⟨c,d⟩:=h2
 rw[W_id (by omega) (by omega)];omega
theorem zef{o a b:P2}(ho:PR o)(ha:PR a)(hb:PR b):zfm o a b=zad o a b/\-9223372019674906632<=zad o a b/\zad o a b<=9223372019674906632:=by
 have p:=df ha.x ho.x;have q:=df hb.y ho.y;have s:=df ha.y ho.y;have t:=df hb.x ho.x
 unfold zfm zad
 rw[p.1,q.1,s.1,t.1]
 have e:=yfy p.2.1 p.2.2 q.2.1 q.2.2 s.2.1 s.2.2 t.2.1 t.2.2
 exact⟨e.2.1,e.2.2.2.2⟩
theorem z90{p q:P2}(hp:PR p)(hq:PR q):rDist p q=zak p q/\0<=zak p q/\zak p q<=9223372019674906632:=by
 have a:=df hp.x hq.x;have b:=df hp.y hq.y
 unfold rDist zak
 rw[a.1,b.1]
 have e:=yfy a.2.1 a.2.2 a.2.1 a.2.2 b.2.1 b.2.2 b.2.1 b.2.2
 have h1:=zgp (p.x-q.x);have h2:=zgp (p.y-q.y)
 exact⟨e.1,by omega,e.2.2.2.1⟩
theorem zqf{a c:P2}(ha:PR a)(hc:PR c):z03 (W (c.x-a.x)) (W (c.y-a.y))=zak a c:=by
 have p:=df hc.x ha.x;have q:=df hc.y ha.y
 unfold z03 zak
 rw[p.1,q.1,(yfy p.2.1 p.2.2 p.2.1 p.2.2 q.2.1 q.2.2 q.2.1 q.2.2).1]
 grind
theorem z4g{p a c:P2}(hp:PR p)(ha:PR a)(hc:PR c):W (W (W (p.x-a.x)*W (c.x-a.x))+W (W (p.y-a.y)*W (c.y-a.y)))=dotI a c p:=by
 have s:=df hc.x ha.x;have q:=df hc.y ha.y;have u:=df hp.x ha.x;have v:=df hp.y ha.y
 rw[s.1,q.1,u.1,v.1,(yfy u.2.1 u.2.2 s.2.1 s.2.2 v.2.1 v.2.2 q.2.1 q.2.2).1]
 unfold dotI;grind
theorem rsq{r:Int}(h1:0<=r)(h2:r<=2147483648):W (r*r)=r*r/\0<=r*r/\r*r<=4611686018427387904:=by
 have a:=zus (A:=2147483648) (x:=r) (by omega) h2
 have e:(2147483648:Int)*2147483648=4611686018427387904:=by decide
 rw[W_id (by omega) (by omega)];omega
theorem U64{x:Int}(h1:0<=x)(h2:x<=9223372036854775807):U x=x/\In64 (U x):=by
 have:U x=x:=U_id h1 (by omega)
 rw[this];exact⟨rfl,by omega,by omega⟩
def clear(p a c:P2)(r:Int):Bool:=decide (zad a c p*zad a c p<=r*r*zak a c)
theorem z37{p a c:P2}{r:Int}(hp:PR p)(ha:PR a)(hc:PR c)(h1:0<=r)(h2:r<=2147483648) :
  decide (wcmp (wsq (zfm a c p)) (wmul (U (ze0 r)) (U (z03 (W (c.x-a.x)) (W (c.y-a.y)))))<=0)=clear p a c r:=by
 have k:=zef ha hc hp
 have d:=z90 ha hc
 have s:=rsq h1 h2
 rw[k.1,zqf ha hc,zgo h1 h2]
 rw[wle (by omega) (by omega) (U64 (x:=r*r) (by omega) (by omega)).2 (U64 (x:=zak a c) (by omega) (by omega)).2,(U64 (x:=r*r) (by omega) (by omega)).1,(U64 (x:=zak a c) (by omega) (by omega)).1]
 rfl
end Go.Proofs.YtmekpbopoknigaaGreatDoor
namespace Go.Proofs.YtmekpbopoknigaaGreatDoor
open Go Go.RowKit
set_option maxRecDepth 100000
def all4(f:P2->Bool)(b:B4):Bool:=f ⟨b.x0,b.y0⟩&&f ⟨b.x1,b.y0⟩&&f ⟨b.x0,b.y1⟩&&f ⟨b.x1,b.y1⟩
theorem zqg(f:P2->Bool)(b:B4):cnt4 f b=(if f ⟨b.x0,b.y0⟩then 1 else 0)+(if f ⟨b.x1,b.y0⟩then 1 else 0)+(if f ⟨b.x0,b.y1⟩then 1 else 0)+(if f ⟨b.x1,b.y1⟩then 1 else 0):=by
 unfold cnt4
 cases f ⟨b.x0,b.y0⟩<;>cases f ⟨b.x1,b.y0⟩<;>cases f ⟨b.x0,b.y1⟩<;>cases f ⟨b.x1,b.y1⟩<;>decide
theorem zqh(f:P2->Bool)(b:B4):(cnt4 f b==4)=all4 f b:=by
 rw[zqg];unfold all4
 cases f ⟨b.x0,b.y0⟩<;>cases f ⟨b.x1,b.y0⟩<;>cases f ⟨b.x0,b.y1⟩<;>cases f ⟨b.x1,b.y1⟩<;>rfl
theorem bumps(i j k l:Int)(hi:i = -1\/i=0\/i=1)(hj:j = -1\/j=0\/j=1)(hk:k = -1\/k=0\/k=1)(hl:l = -1\/l=0\/l=1) :
  ((zpw (W (l+1)) (zpw (W (k+1)) (zpw (W (j+1)) (zpw (W (i+1)) ⟨0,0,0⟩)))).m==4)=(i == -1&&j == -1&&k == -1&&l == -1)
  /\((zpw (W (l+1)) (zpw (W (k+1)) (zpw (W (j+1)) (zpw (W (i+1)) ⟨0,0,0⟩)))).p==4)=(i==1&&j==1&&k==1&&l==1):=by
 rcases hi with rfl|rfl|rfl<;>rcases hj with rfl|rfl|rfl<;>rcases hk with rfl|rfl|rfl<;>rcases hl with rfl|rfl|rfl<;>decide
theorem zqi(f:P2->Int)(b:B4)(h:∀q,f q = -1\/f q=0\/f q=1):((cnt3 f b).m==4)=all4 (λq=>f q == -1) b/\((cnt3 f b).p==4)=all4 (λq=>f q==1) b:=by
 unfold cnt3 all4
 exact bumps _ _ _ _ (h _) (h _) (h _) (h _)
theorem zcx{f g:P2->Bool}{b:B4}(hb:BR b)(h:∀q,PR q->f q=g q):all4 f b=all4 g b:=by
 unfold all4
 rw[h _ ⟨hb.x0,hb.y0⟩,h _ ⟨hb.x1,hb.y0⟩,h _ ⟨hb.x0,hb.y1⟩,h _ ⟨hb.x1,hb.y1⟩]
def same(a c:P2):Prop:=a.x=c.x/\a.y=c.y
instance(a c:P2):Decidable (same a c):=inferInstanceAs (Decidable (_/\_))
theorem zu3(a c:P2):ptEq a c=decide (same a c):=by
 unfold ptEq same
 by_cases h:a.x=c.x
 ·by_cases k:a.y=c.y
  ·simp[h,k]
  ·simp[h,k]
 ·simp[h]
theorem yhu(a c:P2):zak a c=0↔same a c:=by
 unfold zak same
 constructor
 ·intro h
  have h1:=zgp (a.x-c.x);have h2:=zgp (a.y-c.y)
  have e1:(a.x-c.x)*(a.x-c.x)=0:=by omega
  have e2:(a.y-c.y)*(a.y-c.y)=0:=by omega
  have:=Int.mul_eq_zero.1 e1;have:=Int.mul_eq_zero.1 e2
  omega
 ·rintro⟨h,k⟩;rw[h,k];simp
theorem zff(a c:P2):0<=zak a c:=by
 unfold zak
 have h1:=zgp (a.x-c.x);have h2:=zgp (a.y-c.y);omega
theorem zsk{p a c:P2}{h:Int}(hp:PR p)(ha:PR a)(hc:PR c)(h1:0<=h)(h2:h<=2147483648) :
  zdi p a c h=if clear p a c h=true then 0 else if zad a c p>0 then 1 else -1:=by
 unfold zdi
 dsimp only
 rw[z37 hp ha hc h1 h2,(zef ha hc hp).1]
 cases clear p a c h
 ·by_cases k:zad a c p>0
  ·simp[k]
  ·simp[k]
 ·simp
theorem zz9{p a c:P2}(hp:PR p)(ha:PR a)(hc:PR c):past p a c=if dotI a c p<0 then -1 else if dotI a c p>zak a c then 1 else 0:=by
 unfold past
 dsimp only
 rw[z4g hp ha hc,zqf ha hc]
 by_cases k:dotI a c p<0
 ·simp[k]
 ·by_cases k':dotI a c p>zak a c
  ·simp[k,k']
  ·simp[k,k']
def barI(p a c:P2)(h:Int):Bool:=!(decide (same a c))&&decide (1<=h)&&clear p a c h&&decide (0<=dotI a c p)&&decide (dotI a c p<=zak a c)
theorem zy2{p a c:P2}{h:Int}(hp:PR p)(ha:PR a)(hc:PR c)(h2:h<=2147483648):zy3 p a c h=barI p a c h:=by
 unfold zy3 zjm barI
 rw[zu3]
 by_cases h1:h<1
 ·have:¬1<=h:=by omega
  simp[h1,this,zgw,zew]
 ·rw[zsk hp ha hc (by omega) h2,zz9 hp ha hc]
  have:1<=h:=by omega
  simp only[h1,this,zgw,zew,decide_true,decide_false,Bool.or_false,Bool.and_true]
  cases clear p a c h
  ·by_cases k:zad a c p>0
   ·simp[k]
   ·simp[k]
  ·by_cases k:dotI a c p<0
   ·have:¬0<=dotI a c p:=by omega
    simp[k,this]
   ·by_cases k':dotI a c p>zak a c
    ·have:¬dotI a c p<=zak a c:=by omega
     simp[k,k',this]
    ·have k1:0<=dotI a c p:=by omega
     have k2:dotI a c p<=zak a c:=by omega
     simp[k,k',k1,k2]
def zlm(a c:P2)(h:Int)(q:P2):Bool:=!(clear q a c h)&&decide (zad a c q>0)
def zgs(a c:P2)(h:Int)(q:P2):Bool:=!(clear q a c h) && !(decide (zad a c q>0))
def yc3(b:B4)(a c:P2)(h:Int):Int:=
 if h<1\/same a c then 0 else
 if all4 (λq=>barI q a c h) b then 2 else
 if all4 (zgs a c h) b||all4 (zlm a c h) b||all4 (λq=>decide (dotI a c q<0)) b||all4 (λq=>decide (dotI a c q>zak a c)) b then 0 else 1
theorem zsm{b:B4}{a c:P2}{h:Int}(hb:BR b)(ha:PR a)(hc:PR c)(hx:b.x0<=b.x1)(hy:b.y0<=b.y1)(h2:h<=2147483648):zfr b a c h=yc3 b a c h:=by
 unfold zfr yc3
 have e0:zjm a c h=decide (h<1\/same a c):=by
  unfold zjm;rw[zu3,zgw]
  by_cases k:h<1<;>by_cases k':same a c<;>simp[k,k']
 rw[e0]
 by_cases k0:h<1\/same a c
 ·rw[decide_eq_true k0,z1e,if_pos k0]
 ·rw[decide_eq_false k0,ziv,if_neg k0]
  have h1:1<=h:=by omega
  have hh:zhc b ⟨b.x0,b.y0⟩=true:=(zit _ _).2 ⟨by simp,hx,by simp,hy⟩
  rw[hh]
  have hv:zjm a c h=false:=by rw[e0,decide_eq_false k0]
  have e1:(cnt4 (λp=>andB (zdi p a c h==0) (past p a c==0)) b==4)=all4 (λq=>barI q a c h) b:=by
   rw[zqh]
   refine zcx hb λq hq=>?_
   rw[←zy2 hq ha hc h2];unfold zy3;rw[hv];rfl
  have s3:∀q,zdi q a c h = -1\/zdi q a c h=0\/zdi q a c h=1:=λq=>by have:=zy1 q a c h;omega
  have p3:∀q,past q a c = -1\/past q a c=0\/past q a c=1:=λq=>by have:=z98 q a c;omega
  rw[e1,(zqi _ b s3).1,(zqi _ b s3).2,(zqi _ b p3).1,(zqi _ b p3).2]
  have e2:all4 (λq=>zdi q a c h == -1) b=all4 (zgs a c h) b:=zcx hb λq hq=>by
   rw[zsk hq ha hc (by omega) h2];unfold zgs
   cases clear q a c h
   ·by_cases k:zad a c q>0<;>simp[k]
   ·simp
  have e3:all4 (λq=>zdi q a c h==1) b=all4 (zlm a c h) b:=zcx hb λq hq=>by
   rw[zsk hq ha hc (by omega) h2];unfold zlm
   cases clear q a c h
   ·by_cases k:zad a c q>0<;>simp[k]
   ·simp
  have e4:all4 (λq=>past q a c == -1) b=all4 (λq=>decide (dotI a c q<0)) b:=zcx hb λq hq=>by
   rw[zz9 hq ha hc]
   by_cases k:dotI a c q<0
   ·simp[k]
   ·by_cases k':dotI a c q>zak a c<;>simp[k,k']
  have e5:all4 (λq=>past q a c==1) b=all4 (λq=>decide (dotI a c q>zak a c)) b:=zcx hb λq hq=>by
   rw[zz9 hq ha hc]
   by_cases k:dotI a c q<0
   ·have:¬dotI a c q>zak a c:=by have:=zff a c;omega
    simp[k,this]
   ·by_cases k':dotI a c q>zak a c<;>simp[k,k']
  rw[e2,e3,e4,e5]
  simp only[zgw,Bool.not_true,ziv]
  cases all4 (λq=>barI q a c h) b<;>cases all4 (zgs a c h) b<;>cases all4 (zlm a c h) b<;>cases all4 (λq=>decide (dotI a c q<0)) b<;>cases all4 (λq=>decide (dotI a c q>zak a c)) b<;>rfl
end Go.Proofs.YtmekpbopoknigaaGreatDoor
namespace Go.Proofs.YtmekpbopoknigaaGreatDoor
open Go Go.RowKit Sym
set_option maxRecDepth 100000
theorem yco(f:P2->Bool)(b:B4):decide (cnt4 f b<4) = !(all4 f b):=by
 rw[zqg];unfold all4
 cases f ⟨b.x0,b.y0⟩<;>cases f ⟨b.x1,b.y0⟩<;>cases f ⟨b.x0,b.y1⟩<;>cases f ⟨b.x1,b.y1⟩<;>rfl
def sepI(b:B4)(p q:P2):Bool:=decide (max p.x q.x<b.x0)||decide (min p.x q.x>b.x1)||decide (max p.y q.y<b.y0)||decide (min p.y q.y>b.y1)
def zca(b:B4)(p q:P2):Bool:=!(sepI b p q)&&(!(all4 (λc=>decide (zad p q c>0)) b) && !(all4 (λc=>decide (zad p q c<0)) b))
theorem z3e{b:B4}{p q:P2}(hb:BR b)(hp:PR p)(hq:PR q)(hx:b.x0<=b.x1)(hy:b.y0<=b.y1):zrp b p q=zca b p q:=by
 have e1:all4 (λc=>decide (zfm p q c>0)) b=all4 (λc=>decide (zad p q c>0)) b:=zcx hb λc hc=>by rw[(zef hp hq hc).1]
 have e2:all4 (λc=>decide (zfm p q c<0)) b=all4 (λc=>decide (zad p q c<0)) b:=zcx hb λc hc=>by rw[(zef hp hq hc).1]
 have e3:zg5 b=false:=by
  unfold zg5;rw[zgw,decide_eq_false (show ¬b.x0>b.x1 by omega),decide_eq_false (show ¬b.y0>b.y1 by omega)];rfl
 unfold zrp zca sepI
 rw[yco,yco,e1,e2,e3]
 simp only[zgw,zew,ybf,yno,Bool.false_or]
 cases (decide (max p.x q.x<b.x0)||decide (min p.x q.x>b.x1)||decide (max p.y q.y<b.y0)||decide (min p.y q.y>b.y1))<;>rfl
def q0(b:B4):B4:=⟨spl b 0 b.x0,spl b 0 b.y0,spl b 0 (midX b),spl b 0 (midY b)⟩
def q1(b:B4):B4:=⟨spl b 0 (midX b),spl b 0 b.y0,spl b 0 b.x1,spl b 0 (midY b)⟩
def q2(b:B4):B4:=⟨spl b 0 b.x0,spl b 0 (midY b),spl b 0 (midX b),spl b 0 b.y1⟩
def q3(b:B4):B4:=⟨spl b 0 (midX b),spl b 0 (midY b),spl b 0 b.x1,spl b 0 b.y1⟩
structure Fits(b:B4):Prop where
 x0 : -536870912<=b.x0
 x:b.x0<=b.x1
 x1:b.x1<=536870912
 y0 : -536870912<=b.y0
 y:b.y0<=b.y1
 y1:b.y1<=536870912
theorem zsj(b:B4):zy0 b=true↔Fits b:=by
 unfold zy0 zqn
 simp only[zew,Bool.and_eq_true,decide_eq_true_eq]
 constructor
 ·rintro⟨⟨⟨⟨⟨a,c⟩,d,e⟩,f,g⟩,h,i⟩,j,k⟩;exact⟨d,a,i,f,c,k⟩
 ·rintro⟨a,c,d,e,f,g⟩;exact⟨⟨⟨⟨⟨c,f⟩,by omega,by omega⟩,by omega,by omega⟩,by omega,by omega⟩,by omega,by omega⟩
theorem spl_of{b:B4}(hb:Fits b)(h:zzw b=true):(∀v,spl b 0 v=v)/\b.x0<midX b/\b.y0<midY b/\2*midX b=b.x0+b.x1/\2*midY b=b.y0+b.y1:=by
 obtain⟨a1,a2,a3,a4,a5,a6⟩:=hb
 have k:∀v,spl b 0 v=v:=λv=>by
  unfold zzw at h;unfold spl
  cases hq:zy0 b
  ·rw[hq]at h;cases h
  ·rw[hq]at h
   simp only[Bool.not_true,ziv]at h ⊢
   cases ho:orB (orB (orB (W (b.x1-b.x0)==0) (W (b.y1-b.y0)==0)) ((W (b.x1-b.x0)).tmod 2 != 0)) ((W (b.y1-b.y0)).tmod 2 != 0)
   ·rfl
   ·rw[ho]at h;cases h
 refine⟨k,?_⟩
 unfold zzw at h
 rw[(zsj b).2 ⟨a1,a2,a3,a4,a5,a6⟩]at h
 rw[W_id (x:=b.x1-b.x0) (by omega) (by omega),W_id (x:=b.y1-b.y0) (by omega) (by omega)]at h
 simp only[Bool.not_true,ziv,zgw]at h
 have h':¬(((b.x1-b.x0=0\/b.y1-b.y0=0)\/(b.x1-b.x0).tmod 2≠0)\/(b.y1-b.y0).tmod 2≠0):=by
  intro q
  have:(b.x1-b.x0==0||b.y1-b.y0==0||(b.x1-b.x0).tmod 2 != 0||(b.y1-b.y0).tmod 2 != 0)=true:=by
   simp only[Bool.or_eq_true,beq_iff_eq,bne_iff_ne];exact q
  rw[this]at h;cases h
 rw[Int.tmod_eq_emod_of_nonneg (by omega),Int.tmod_eq_emod_of_nonneg (by omega)]at h'
 unfold midX midY
 rw[W_id (x:=b.x1-b.x0) (by omega) (by omega),W_id (x:=b.y1-b.y0) (by omega) (by omega),Int.tdiv_eq_ediv_of_nonneg (by omega),Int.tdiv_eq_ediv_of_nonneg (by omega),
  W_id (x:=(b.x1-b.x0)/2) (by omega) (by omega),W_id (x:=(b.y1-b.y0)/2) (by omega) (by omega),W_id (by omega) (by omega),W_id (by omega) (by omega)]
 omega
def zih(p a c:P2)(r:Int):Bool:=
 if dotI a c p<=0 then decide (zak p a<=r*r)else if dotI a c p>=zak a c then decide (zak p c<=r*r)else clear p a c r
theorem zop{p a c:P2}{r:Int}(hp:PR p)(ha:PR a)(hc:PR c)(h1:1<=r)(h2:r<=2147483648):zjc p a c r=zih p a c r:=by
 unfold zjc zih
 rw[decide_eq_false (show ¬r<1 by omega),ziv]
 dsimp only
 rw[z4g hp ha hc,zqf ha hc]
 have e:=z37 hp ha hc (r:=r) (by omega) h2
 rw[zqf ha hc]at e
 rw[e,zgo (by omega) h2]
 have n1:=zgb (b:=⟨a.x,a.y,a.x,a.y⟩) ⟨ha.x,ha.y,ha.x,ha.y⟩ hp
 have n2:=zgb (b:=⟨c.x,c.y,c.x,c.y⟩) ⟨hc.x,hc.y,hc.x,hc.y⟩ hp
 rw[n1.1,n2.1,zf5,zf5]
 by_cases k:dotI a c p<=0
 ·simp[k]
 ·by_cases k':dotI a c p>=zak a c
  ·simp[k,k']
  ·simp[k,k']
def any4(f:P2->Bool)(b:B4):Bool:=f ⟨b.x0,b.y0⟩||f ⟨b.x1,b.y0⟩||f ⟨b.x0,b.y1⟩||f ⟨b.x1,b.y1⟩
theorem yia(f:P2->Bool)(b:B4):decide (cnt4 f b>0)=any4 f b:=by
 rw[zqg];unfold any4
 cases f ⟨b.x0,b.y0⟩<;>cases f ⟨b.x1,b.y0⟩<;>cases f ⟨b.x0,b.y1⟩<;>cases f ⟨b.x1,b.y1⟩<;>rfl
theorem zyp(f:P2->Bool)(b:B4):(cnt4 f b==0) = !(any4 f b):=by
 rw[zqg];unfold any4
 cases f ⟨b.x0,b.y0⟩<;>cases f ⟨b.x1,b.y0⟩<;>cases f ⟨b.x0,b.y1⟩<;>cases f ⟨b.x1,b.y1⟩<;>rfl
theorem z6w{f g:P2->Bool}{b:B4}(hb:BR b)(h:∀q,PR q->f q=g q):any4 f b=any4 g b:=by
 unfold any4
 rw[h _ ⟨hb.x0,hb.y0⟩,h _ ⟨hb.x1,hb.y0⟩,h _ ⟨hb.x0,hb.y1⟩,h _ ⟨hb.x1,hb.y1⟩]
def zrv(b:B4)(a c:P2)(r:Int):Int:=
 if all4 (λq=>zih q a c r) b then 2 else
 if any4 (λq=>zih q a c r) b||decide (zc6 b a<=r*r)||decide (zc6 b c<=r*r)||zca b a c then 1 else 0
theorem zkm{b:B4}{a c:P2}{r:Int}(hb:BR b)(ha:PR a)(hc:PR c)(hx:b.x0<=b.x1)(hy:b.y0<=b.y1)(h1:1<=r)(h2:r<=2147483648):zd2 b a c r=zrv b a c r:=by
 unfold zd2 zrv
 have hh:zhc b ⟨b.x0,b.y0⟩=true:=(zit _ _).2 ⟨by simp,hx,by simp,hy⟩
 rw[hh,decide_eq_false (show ¬r<1 by omega)]
 have e1:all4 (λp=>zjc p a c r) b=all4 (λp=>zih p a c r) b:=zcx hb λq hq=>zop hq ha hc h1 h2
 have e2:any4 (λp=>zjc p a c r) b=any4 (λp=>zih p a c r) b:=z6w hb λq hq=>zop hq ha hc h1 h2
 dsimp only
 rw[zqh,yia,e1,e2,zgo (by omega) h2,(zgb hb ha).1,(zgb hb hc).1,z3e hb ha hc hx hy]
 simp only[zgw,Bool.not_true,Bool.or_false,ziv]
 cases all4 (λp=>zih p a c r) b
 ·cases (any4 (λp=>zih p a c r) b||decide (zc6 b a<=r*r)||decide (zc6 b c<=r*r)||zca b a c)<;>rfl
 ·rfl
def isC(b:B4)(c:P2):Prop:=(c.x=b.x0\/c.x=b.x1)/\(c.y=b.y0\/c.y=b.y1)
theorem z4h{f:P2->Bool}{b:B4}:all4 f b=true↔∀c,isC b c->f c=true:=by
 unfold all4
 simp only[Bool.and_eq_true]
 constructor
 ·rintro⟨⟨⟨h1,h2⟩,h3⟩,h4⟩ ⟨x,y⟩ ⟨hx,hy⟩
  dsimp only at hx hy
  rcases hx with rfl|rfl<;>rcases hy with rfl|rfl<;>assumption
 ·intro h
  exact⟨⟨⟨h _ ⟨.inl rfl,.inl rfl⟩,h _ ⟨.inr rfl,.inl rfl⟩⟩,h _ ⟨.inl rfl,.inr rfl⟩⟩,h _ ⟨.inr rfl,.inr rfl⟩⟩
theorem yio{f:P2->Bool}{b:B4}:any4 f b=true↔∃c,isC b c/\f c=true:=by
 unfold any4
 simp only[Bool.or_eq_true]
 constructor
 ·rintro(((h|h)|h)|h)
  ·exact⟨_,⟨.inl rfl,.inl rfl⟩,h⟩
  ·exact⟨_,⟨.inr rfl,.inl rfl⟩,h⟩
  ·exact⟨_,⟨.inl rfl,.inr rfl⟩,h⟩
  ·exact⟨_,⟨.inr rfl,.inr rfl⟩,h⟩
 ·rintro⟨⟨x,y⟩,⟨hx,hy⟩,h⟩
  dsimp only at hx hy
  rcases hx with rfl|rfl<;>rcases hy with rfl|rfl<;>simp[h]
theorem ynm{b:B4}{c:P2}(hx:b.x0<=b.x1)(hy:b.y0<=b.y1)(h:isC b c):hasI b c:=by
 obtain⟨h1,h2⟩:=h
 exact⟨by omega,by omega,by omega,by omega⟩
theorem zyn{b:B4}{q:P2}(u v:Int)(h:hasI b q):∃c,isC b c/\u*q.x+v*q.y<=u*c.x+v*c.y:=by
 obtain⟨h1,h2,h3,h4⟩:=h
 have one:∀u x lo hi:Int,lo<=x->x<=hi->u*x<=u*lo\/u*x<=u*hi:=λu x lo hi a c=>by
  rcases Int.le_total 0 u with k|k
  ·right;exact Int.mul_le_mul_of_nonneg_left c k
  ·left
   have:=Int.mul_nonneg (show 0<=-u by omega) (show 0<=x-lo by omega)
   have e : -u*(x-lo)=u*lo-u*x:=by grind
   omega
 rcases one u q.x b.x0 b.x1 h1 h2 with k|k<;>rcases one v q.y b.y0 b.y1 h3 h4 with k'|k'
 ·exact⟨⟨b.x0,b.y0⟩,⟨.inl rfl,.inl rfl⟩,by dsimp only;omega⟩
 ·exact⟨⟨b.x0,b.y1⟩,⟨.inl rfl,.inr rfl⟩,by dsimp only;omega⟩
 ·exact⟨⟨b.x1,b.y0⟩,⟨.inr rfl,.inl rfl⟩,by dsimp only;omega⟩
 ·exact⟨⟨b.x1,b.y1⟩,⟨.inr rfl,.inr rfl⟩,by dsimp only;omega⟩
theorem znx(a c p:P2):zad a c p = -(c.y-a.y)*p.x+(c.x-a.x)*p.y+((c.y-a.y)*a.x-(c.x-a.x)*a.y):=by unfold zad;grind
theorem yh2{b:B4}{q:P2}(a c:P2)(h:hasI b q):∃k,isC b k/\zad a c q<=zad a c k:=by
 obtain⟨k,hk,hl⟩:=zyn (-(c.y-a.y)) (c.x-a.x) h
 exact⟨k,hk,by rw[znx,znx];omega⟩
theorem yh1{b:B4}{q:P2}(a c:P2)(h:hasI b q):∃k,isC b k/\zad a c k<=zad a c q:=by
 obtain⟨k,hk,hl⟩:=zyn (c.y-a.y) (-(c.x-a.x)) h
 refine⟨k,hk,?_⟩
 rw[znx,znx a c q]
 have e1 : -(c.y-a.y)*q.x = -((c.y-a.y)*q.x):=by grind
 have e2 : -(c.x-a.x)*q.y = -((c.x-a.x)*q.y):=by grind
 have e3 : -(c.y-a.y)*k.x = -((c.y-a.y)*k.x):=by grind
 have e4 : -(c.x-a.x)*k.y = -((c.x-a.x)*k.y):=by grind
 rw[e1,e3];rw[e2,e4]at hl;omega
theorem z3i(a c p:P2):zak a c*zak p a=dotI a c p*dotI a c p+zad a c p*zad a c p:=by
 unfold zak dotI zad;grind
theorem zx4(a c p:P2):zak a c*zak p c=(dotI a c p-zak a c)*(dotI a c p-zak a c)+zad a c p*zad a c p:=by
 unfold zak dotI zad;grind
theorem pt_BR{p:P2}(h:PR p):BR ⟨p.x,p.y,p.x,p.y⟩:=⟨h.x,h.y,h.x,h.y⟩
theorem zoz{p c:P2}{r:Int}(hp:PR p)(hc:PR c)(h1:1<=r)(h2:r<=2147483648):zo0 p c r=decide (zak p c<=r*r):=by
 unfold zo0
 rw[decide_eq_false (show ¬r<1 by omega),ziv,(zgb (pt_BR hc) hp).1,zf5,zgo (by omega) h2]
theorem zf6{b:B4}{c:P2}{r:Int}(hb:BR b)(hc:PR c)(hx:b.x0<=b.x1)(hy:b.y0<=b.y1)(h1:1<=r)(h2:r<=2147483648) :
  zcr b c r=if zc6 b c>r*r then 0 else if zeb b c<=r*r then 2 else 1:=by
 unfold zcr
 have hh:zhc b ⟨b.x0,b.y0⟩=true:=(zit _ _).2 ⟨by simp,hx,by simp,hy⟩
 rw[decide_eq_false (show ¬r<1 by omega),hh,(zgb hb hc).1,(yax hb hc).1,zgo (by omega) h2]
 show(bif decide (zc6 b c>r*r)then 0 else bif decide (zeb b c<=r*r)then 2 else 1)=_
 by_cases k:zc6 b c>r*r
 ·rw[decide_eq_true k,if_pos k];rfl
 ·rw[decide_eq_false k,if_neg k,ziv]
  by_cases k':zeb b c<=r*r
  ·rw[decide_eq_true k',if_pos k'];rfl
  ·rw[decide_eq_false k',if_neg k'];rfl
theorem z0k{b:B4}{p:P2}(hx:b.x0<=b.x1)(hy:b.y0<=b.y1):zeb b p=max (max (zak ⟨b.x0,b.y0⟩ p) (zak ⟨b.x1,b.y0⟩ p)) (max (zak ⟨b.x0,b.y1⟩ p) (zak ⟨b.x1,b.y1⟩ p)):=by
 have e:∀u lo hi:Int,lo<=hi->zcz u lo hi*zcz u lo hi=max ((lo-u)*(lo-u)) ((hi-u)*(hi-u)):=λu lo hi h=>by
  have h5:(zcz u lo hi = -(lo-u)/\hi-u<=-(lo-u)/\lo-u<=hi-u)\/(zcz u lo hi=hi-u/\-(hi-u)<=lo-u/\lo-u<=hi-u):=by unfold zcz;omega
  rcases h5 with⟨h6,h7,h8⟩|⟨h6,h7,h8⟩
  ·have:=zzv (x:=hi-u) (y:=-(lo-u)) (by omega) h7
   have e : -(lo-u) * -(lo-u)=(lo-u)*(lo-u):=by grind
   rw[h6,e];rw[e]at this;omega
  ·have:=zzv h7 h8
   rw[h6];omega
 unfold zak zeb
 dsimp only
 rw[e _ _ _ hx,e _ _ _ hy]
 omega
def zoh(b:B4)(p:P2):P2:=⟨min (max p.x b.x0) b.x1,min (max p.y b.y0) b.y1⟩
theorem zpg{b:B4}{p:P2}(hx:b.x0<=b.x1)(hy:b.y0<=b.y1):zc6 b p=zak (zoh b p) p:=by
 have e:∀u lo hi:Int,lo<=hi->gapI u lo hi*gapI u lo hi=(min (max u lo) hi-u)*(min (max u lo) hi-u):=λu lo hi h=>by
  have:gapI u lo hi=min (max u lo) hi-u\/gapI u lo hi = -(min (max u lo) hi-u):=by unfold gapI;split<;>omega
  rcases this with h|h<;>rw[h]
  grind
 unfold zak zc6 zoh
 dsimp only
 rw[e _ _ _ hx,e _ _ _ hy]
theorem ydh{b:B4}{p:P2}(hb:BR b)(h:hasI b p):PR p:=by
 obtain⟨⟨a1,a2⟩,⟨a3,a4⟩,⟨a5,a6⟩,a7,a8⟩:=hb
 obtain⟨h1,h2,h3,h4⟩:=h
 exact⟨⟨by omega,by omega⟩,⟨by omega,by omega⟩⟩
structure Seg(p a c:P2)(R m n:Int):Prop where
 n0:0<n
 m0:0<=m
 mn:m<=n
 d:(n*(p.x-a.x)-m*(c.x-a.x))*(n*(p.x-a.x)-m*(c.x-a.x))+(n*(p.y-a.y)-m*(c.y-a.y))*(n*(p.y-a.y)-m*(c.y-a.y))<=n*n*R
def OnS(p a c:P2)(R:Int):Prop:=∃m n,Seg p a c R m n
theorem sq_pos{n:Int}(h:0<n):0<n*n:=Int.mul_pos h h
theorem zut(p a c:P2)(m n:Int):(n*(p.x-a.x)-m*(c.x-a.x))*(n*(p.x-a.x)-m*(c.x-a.x))+(n*(p.y-a.y)-m*(c.y-a.y))*(n*(p.y-a.y)-m*(c.y-a.y))
  = n*n*zak p a-2*(n*m*dotI a c p)+m*m*zak a c:=by unfold zak dotI;grind
theorem zru{p a c:P2}{r:Int}:zih p a c r=true↔OnS p a c (r*r):=by
 have hL:=zff a c
 have l1:=z3i a c p
 have l2:=zx4 a c p
 generalize hR:r*r=R
 have hRn:0<=R:=hR▸zgp r
 unfold zih clear
 rw[hR]
 constructor
 ·intro h
  by_cases k:dotI a c p<=0
  ·rw[if_pos k,decide_eq_true_eq]at h
   exact⟨0,1,by decide,by decide,by decide,by rw[zut];omega⟩
  ·rw[if_neg k]at h
   by_cases k':dotI a c p>=zak a c
   ·rw[if_pos k',decide_eq_true_eq]at h
    refine⟨1,1,by decide,by decide,by decide,?_⟩
    have:(1*(p.x-a.x)-1*(c.x-a.x))*(1*(p.x-a.x)-1*(c.x-a.x))+(1*(p.y-a.y)-1*(c.y-a.y))*(1*(p.y-a.y)-1*(c.y-a.y))=zak p c:=by unfold zak;grind
    omega
   ·rw[if_neg k',decide_eq_true_eq]at h
    refine⟨dotI a c p,zak a c,by omega,by omega,by omega,?_⟩
    rw[zut]
    have g:=Int.mul_le_mul_of_nonneg_left h hL
    clear l2 k k' h
    generalize dotI a c p=T at *
    generalize zak a c=L at *
    generalize zad a c p=K at *
    generalize zak p a=A at *
    have e1:L*L*A=L*(T*T+K*K):=by rw[←l1];grind
    have e2:L*(T*T+K*K)-2*(L*T*T)+T*T*L=L*(K*K):=by grind
    have e3:L*L*R=L*(R*L):=by grind
    rw[e1,e2,e3];exact g
 ·rintro⟨m,n,n0,m0,mn,h⟩
  rw[zut]at h
  have hn:=sq_pos n0
  by_cases k:dotI a c p<=0
  ·rw[if_pos k,decide_eq_true_eq]
   have e1:=Int.mul_nonneg (Int.mul_nonneg (show 0<=n by omega) m0) (show 0<=-dotI a c p by omega)
   have e2:=Int.mul_nonneg (Int.mul_nonneg m0 m0) hL
   have e3:n*m * -dotI a c p = -(n*m*dotI a c p):=by grind
   exact Int.le_of_mul_le_mul_left (a:=n*n) (by omega) hn
  ·rw[if_neg k]
   by_cases k':dotI a c p>=zak a c
   ·rw[if_pos k',decide_eq_true_eq]
    have e0:zak p c=zak p a-2*dotI a c p+zak a c:=by unfold zak dotI;grind
    have e1:=Int.mul_nonneg (Int.mul_nonneg (show 0<=n by omega) (show 0<=n-m by omega)) (show 0<=dotI a c p-zak a c by omega)
    have e2:=Int.mul_nonneg (Int.mul_nonneg (show 0<=n-m by omega) (show 0<=n-m by omega)) hL
    refine Int.le_of_mul_le_mul_left (a:=n*n) ?_ hn
    rw[e0]
    generalize zak p a=A at *
    generalize dotI a c p=T at *
    generalize zak a c=L at *
    grind
   ·rw[if_neg k',decide_eq_true_eq]
    have e1:=Int.mul_le_mul_of_nonneg_left h hL
    have e2:=zgp (n*dotI a c p-m*zak a c)
    refine Int.le_of_mul_le_mul_left (a:=n*n) ?_ hn
    generalize dotI a c p=T at *
    generalize zak a c=L at *
    generalize zad a c p=K at *
    generalize zak p a=A at *
    have e3:L*(n*n*A-2*(n*m*T)+m*m*L)=n*n*(L*A)-2*(n*m*(T*L))+m*m*(L*L):=by grind
    rw[e3,l1]at e1
    have e4:n*n*(T*T+K*K)-2*(n*m*(T*L))+m*m*(L*L)=(n*T-m*L)*(n*T-m*L)+n*n*(K*K):=by grind
    have e5:L*(n*n*R)=n*n*(R*L):=by grind
    rw[e4,e5]at e1
    omega
def yow(i:Int):Int:=
 bif decide (i=((0:Nat):Int))then 5 else bif decide (i=((1:Nat):Int))then 4 else bif decide (i=((2:Nat):Int))then 3 else bif decide (i=((3:Nat):Int))then 0 else bif decide (i=((4:Nat):Int))then -3 else bif decide (i=((5:Nat):Int))then -4 else
 bif decide (i=((6:Nat):Int))then -5 else bif decide (i=((7:Nat):Int))then -4 else bif decide (i=((8:Nat):Int))then -3 else bif decide (i=((9:Nat):Int))then 0 else bif decide (i=((10:Nat):Int))then 3 else 4
def yov(i:Int):Int:=
 bif decide (i=((0:Nat):Int))then 0 else bif decide (i=((1:Nat):Int))then 3 else bif decide (i=((2:Nat):Int))then 4 else bif decide (i=((3:Nat):Int))then 5 else bif decide (i=((4:Nat):Int))then 4 else bif decide (i=((5:Nat):Int))then 3 else
 bif decide (i=((6:Nat):Int))then 0 else bif decide (i=((7:Nat):Int))then -3 else bif decide (i=((8:Nat):Int))then -4 else bif decide (i=((9:Nat):Int))then -5 else bif decide (i=((10:Nat):Int))then -4 else -3
def arcI(f:Int):Int:=(band f 255).tmod 12
def zy5(s:Int):Int:=W (W ((U s).tmod 20000000)+1)
def zo2(s:Int):Int:=W (band (zy5 s) 3+1)
def z1m(c:P2):P2:=zdc c 400000000
def zwc(c:P2):P2:=zdc (z1m c) 15
def arcC(c:P2)(sm:Bool):P2:=⟨bif sm then(zwc c).x else(z1m c).x,bif sm then(zwc c).y else(z1m c).y⟩
def zm0(c:P2)(f s:Int)(sm:Bool):P2:=
 ⟨bif sm then W ((zwc c).x+W (zo2 s*yow (arcI f)))else W ((z1m c).x+W (zy5 s*yow (arcI f))),bif sm then W ((zwc c).y+W (zo2 s*yov (arcI f)))else W ((z1m c).y+W (zy5 s*yov (arcI f)))⟩
theorem yo4(x:Int):0<=band x 255/\band x 255<=255:=by
 have h:(BitVec.ofInt 64 x &&& BitVec.ofInt 64 255).toNat<=255:=by
  rw[BitVec.toNat_and]
  exact Nat.le_trans Nat.and_le_right (by decide)
 unfold band
 rw[W_id (by omega) (by omega)]
 omega
theorem z1l(f:Int):0<=arcI f/\arcI f<12:=by
 have a:=yo4 f
 have b:=Int.tmod_nonneg (a:=band f 255) 12 a.1
 have c:=(zhv (band f 255) (n:=12) (by decide)).2
 unfold arcI;omega
def arcIx(f:Int):Prop:=0<=arcI f/\arcI f<((12:Nat):Int)
theorem n16:W (15+1)≠0:=by decide
theorem n4e8:W (400000000+1)≠0:=by decide
theorem arc_ok(c:P2)(f t s:Int)(sm:Bool):za2 Tryz.prog 32 [pt c,vi f,vi t,vi s,vb sm] (.tuple ⟨[pt (arcC c sm),pt (zm0 c f s sm),pt (zm0 c t s sm)]⟩):=
 yn3 (fuel:=16) (zas zj8) mo Tryz.func32 (by kernel_rfl) (by kernel_rfl) (by kernel_rfl)
  (show _=[arcIx f,arcIx t,W (400000000+1)≠0,sm=true->W (15+1)≠0]by kernel_rfl) ⟨z1l f,z1l t,n4e8,λ_=>n16,trivial⟩
structure Circ(u:P2):Prop where
 x : -5<=u.x/\u.x<=5
 y : -5<=u.y/\u.y<=5
 n:u.x*u.x+u.y*u.y=25
def circ(f:Int):P2:=⟨yow (arcI f),yov (arcI f)⟩
theorem zv4(f:Int):Circ (circ f):=by
 have h:=z1l f
 have:arcI f=0\/arcI f=1\/arcI f=2\/arcI f=3\/arcI f=4\/arcI f=5\/arcI f=6\/arcI f=7\/arcI f=8\/arcI f=9\/arcI f=10\/arcI f=11:=by omega
 unfold circ
 rcases this with h|h|h|h|h|h|h|h|h|h|h|h<;>rw[h]<;>exact⟨by decide,by decide,by decide⟩
theorem yil(s:Int):1<=zy5 s/\zy5 s<=20000000:=by
 have h0:0<=U s:=by rw[U_eq];omega
 have a:=Int.tmod_nonneg (a:=U s) 20000000 h0
 have b:=(zhv (U s) (n:=20000000) (by decide)).2
 unfold zy5
 rw[W_id (x:=(U s).tmod 20000000) (by omega) (by omega),W_id (by omega) (by omega)];omega
theorem z4c(s:Int):1<=zo2 s/\zo2 s<=4:=by
 have a:=band3 (zy5 s)
 unfold zo2;rw[W_id (by omega) (by omega)];omega
def arcK(s:Int)(sm:Bool):Int:=bif sm then zo2 s else zy5 s
theorem z1k(s:Int)(sm:Bool):1<=arcK s sm/\arcK s sm<=20000000:=by
 have a:=yil s;have b:=z4c s
 cases sm
 ·exact a
 ·exact⟨b.1,by show zo2 s<=_;omega⟩
theorem zy6(c:P2)(sm:Bool):(-400000000<=(arcC c sm).x/\(arcC c sm).x<=400000000)/\(-400000000<=(arcC c sm).y/\(arcC c sm).y<=400000000):=by
 have a:=zjd c (n:=400000000) (by decide) (by decide)
 have b:=zjd (z1m c) (n:=15) (by decide) (by decide)
 cases sm
 ·exact a
 ·show(_<=(zwc c).x/\(zwc c).x<=_)/\(_<=(zwc c).y/\(zwc c).y<=_)
  unfold zwc;omega
theorem ykx(c:P2):(-15<=(arcC c true).x/\(arcC c true).x<=15)/\(-15<=(arcC c true).y/\(arcC c true).y<=15):=zjd (z1m c) (n:=15) (by decide) (by decide)
def onC(c:P2)(k:Int)(u:P2):P2:=⟨c.x+k*u.x,c.y+k*u.y⟩
theorem zwd(c:P2)(f s:Int)(sm:Bool):zm0 c f s sm=onC (arcC c sm) (arcK s sm) (circ f):=by
 have h:=zv4 f
 have kk:=z1k s sm
 have cc:=zy6 c sm
 have x:=zid (A:=20000000) (B:=5) (x:=arcK s sm) (y:=(circ f).x) (by omega) (by omega) h.x.1 h.x.2
 have y:=zid (A:=20000000) (B:=5) (x:=arcK s sm) (y:=(circ f).y) (by omega) (by omega) h.y.1 h.y.2
 have e:zm0 c f s sm=⟨W ((arcC c sm).x+W (arcK s sm*(circ f).x)),W ((arcC c sm).y+W (arcK s sm*(circ f).y))⟩:=by cases sm<;>rfl
 rw[e,W_id (x:=arcK s sm*(circ f).x) (by omega) (by omega),W_id (x:=arcK s sm*(circ f).y) (by omega) (by omega),W_id (by omega) (by omega),W_id (by omega) (by omega)]
 rfl
theorem onC_r{c:P2}{k:Int}{u:P2}(hc:(-400000000<=c.x/\c.x<=400000000)/\(-400000000<=c.y/\c.y<=400000000))(hk:1<=k/\k<=20000000)(hu:Circ u):PR (onC c k u)/\zak (onC c k u) c=25*(k*k):=by
 have x:=zid (A:=20000000) (B:=5) (x:=k) (y:=u.x) (by omega) (by omega) hu.x.1 hu.x.2
 have y:=zid (A:=20000000) (B:=5) (x:=k) (y:=u.y) (by omega) (by omega) hu.y.1 hu.y.2
 refine⟨⟨⟨by unfold onC;dsimp only;omega,by unfold onC;dsimp only;omega⟩,⟨by unfold onC;dsimp only;omega,by unfold onC;dsimp only;omega⟩⟩,?_⟩
 have e:zak (onC c k u) c=k*k*(u.x*u.x+u.y*u.y):=by unfold zak onC;dsimp only;grind
 rw[e,hu.n];omega
def outI(d rr r:Int):Bool:=decide (rr-r*r-d<=0\/(rr-r*r-d)*(rr-r*r-d)<=4*d*(r*r))
def insI(d rr r:Int):Bool:=decide (d-rr-r*r<=0\/(d-rr-r*r)*(d-rr-r*r)<=4*rr*(r*r))
theorem zoe{d rr r:Int}(h0:0<=d)(h1:d<=4000000000000000000)(h2:0<=rr)(h3:rr<=4000000000000000000)(h4:1<=r)(h5:r<=1073741824):zmb d rr r=outI d rr r:=by
 have s:=zus (A:=1073741824) (x:=r) (by omega) h5
 unfold zmb outI
 rw[zgo (by omega) (by omega),W_id (x:=rr-r*r) (by omega) (by omega),W_id (x:=rr-r*r-d) (by omega) (by omega),U_id (x:=d) (by omega) (by omega),U_id (x:=4*d) (by omega) (by omega),U_id (x:=r*r) (by omega) (by omega)]
 dsimp only
 rw[wle (by omega) (by omega) ⟨by omega,by omega⟩ ⟨by omega,by omega⟩,zgw,←Bool.decide_or]
theorem zr2{d rr r:Int}(h0:0<=d)(h1:d<=4000000000000000000)(h2:0<=rr)(h3:rr<=4000000000000000000)(h4:1<=r)(h5:r<=1073741824):zr3 d rr r=insI d rr r:=by
 have s:=zus (A:=1073741824) (x:=r) (by omega) h5
 unfold zr3 insI
 rw[zgo (by omega) (by omega),W_id (x:=d-rr) (by omega) (by omega),W_id (x:=d-rr-r*r) (by omega) (by omega),U_id (x:=rr) (by omega) (by omega),U_id (x:=4*rr) (by omega) (by omega),U_id (x:=r*r) (by omega) (by omega)]
 dsimp only
 rw[wle (by omega) (by omega) ⟨by omega,by omega⟩ ⟨by omega,by omega⟩,zgw,←Bool.decide_or]
def ymh(p c a e:P2):Bool:=
 decide (same a e)||(if zad c a e<0 then decide (zad c a p>=0)||decide (zad c p e>=0)else decide (zad c a p>=0)&&decide (zad c p e>=0))
theorem z9l{p c a e:P2}(hp:PR p)(hc:PR c)(ha:PR a)(he:PR e):z9m p c a e=ymh p c a e:=by
 unfold z9m ymh zgr
 rw[zu3,(zef hc ha he).1,(zef hc ha hp).1,(zef hc hp he).1,zgw,zew]
 by_cases s:same a e
 ·simp[s]
 ·by_cases k:zad c a e<0<;>simp[s,k]
def okI(c a e:P2):Prop:=zak a c≠0/\zak a c=zak e c
theorem zq6{c a e:P2}(hc:PR c)(ha:PR a)(he:PR e):znf c a e=true↔okI c a e:=by
 have e1:=zgb (b:=⟨c.x,c.y,c.x,c.y⟩) ⟨hc.x,hc.y,hc.x,hc.y⟩ ha
 have e2:=zgb (b:=⟨c.x,c.y,c.x,c.y⟩) ⟨hc.x,hc.y,hc.x,hc.y⟩ he
 unfold znf zb7 okI
 rw[e1.1,e2.1,zf5,zf5,zew]
 simp
def ygb(p c a e:P2)(r:Int):Bool:=decide (zak p a<=r*r)||decide (zak p e<=r*r)||(ymh p c a e&&outI (zak p c) (zak a c) r&&insI (zak p c) (zak a c) r)
theorem z45{p c a e:P2}{r:Int}(hp:PR p)(hc:PR c)(ha:PR a)(he:PR e)(ok:okI c a e)(h4:1<=r)(h5:r<=1073741824)(hd:zak p c<=4000000000000000000)(hr:zak a c<=4000000000000000000):zux p c a e r=ygb p c a e r:=by
 have e1:=zgb (b:=⟨c.x,c.y,c.x,c.y⟩) ⟨hc.x,hc.y,hc.x,hc.y⟩ hp
 have e2:=zgb (b:=⟨c.x,c.y,c.x,c.y⟩) ⟨hc.x,hc.y,hc.x,hc.y⟩ ha
 unfold zux ygb
 rw[(zq6 hc ha he).2 ok,decide_eq_false (show ¬r<1 by omega)]
 unfold zb7
 rw[e1.1,e2.1,zf5,zf5,zoz hp ha h4 (by omega),zoz hp he h4 (by omega),z9l hp hc ha he,zoe (zff _ _) hd (zff _ _) hr h4 h5,zr2 (zff _ _) hd (zff _ _) hr h4 h5]
 simp only[zgw,zew,Bool.not_true,Bool.or_false,ziv]
 cases (decide (zak p a<=r*r)||decide (zak p e<=r*r))<;>rfl
def liIn(b:B4)(c a e:P2):Bool:=decide (same a e)||(if zad c a e<0 then all4 (λq=>decide (zad c a q>=0)) b||all4 (λq=>decide (zad c q e>=0)) b else all4 (λq=>decide (zad c a q>=0)) b&&all4 (λq=>decide (zad c q e>=0)) b)
def z52(b:B4)(c a e:P2):Bool:=!(decide (same a e))&&(if zad c a e<0 then all4 (λq=>decide (zad c a q<0)) b&&all4 (λq=>decide (zad c q e<0)) b else all4 (λq=>decide (zad c a q<0)) b||all4 (λq=>decide (zad c q e<0)) b)
theorem zu9(f:P2->Bool)(b:B4):(!(any4 f b))=all4 (λq=>!(f q)) b:=by
 unfold any4 all4
 dsimp only
 cases f ⟨b.x0,b.y0⟩<;>cases f ⟨b.x1,b.y0⟩<;>cases f ⟨b.x0,b.y1⟩<;>cases f ⟨b.x1,b.y1⟩<;>rfl
theorem ya5{b:B4}{c a e:P2}(hb:BR b)(hc:PR c)(ha:PR a)(he:PR e):zx0 b c a e=liIn b c a e/\zrw b c a e=z52 b c a e:=by
 have u0:all4 (λq=>!(decide (zfm c a q<0))) b=all4 (λq=>decide (zad c a q>=0)) b:=zcx hb λq hq=>by rw[(zef hc ha hq).1,←decide_not];exact decide_eq_decide.2 (by omega)
 have v0:all4 (λq=>!(decide (zfm c q e<0))) b=all4 (λq=>decide (zad c q e>=0)) b:=zcx hb λq hq=>by rw[(zef hc hq he).1,←decide_not];exact decide_eq_decide.2 (by omega)
 have u4:all4 (λq=>decide (zfm c a q<0)) b=all4 (λq=>decide (zad c a q<0)) b:=zcx hb λq hq=>by rw[(zef hc ha hq).1]
 have v4:all4 (λq=>decide (zfm c q e<0)) b=all4 (λq=>decide (zad c q e<0)) b:=zcx hb λq hq=>by rw[(zef hc hq he).1]
 unfold zx0 zrw liIn z52 zgr
 dsimp only
 rw[zyp,zyp,zqh,zqh,zu9,zu9,u0,v0,u4,v4,zu3,(zef hc ha he).1]
 simp only[zgw,zew]
 by_cases s:same a e
 ·simp[s]
 ·by_cases k:zad c a e<0<;>simp[s,k]
def zjt(b:B4)(c a e:P2)(r:Int):Int:=
 if zeb b a<=r*r\/zeb b e<=r*r then 2 else
 if liIn b c a e&&outI (zc6 b c) (zak a c) r&&insI (zeb b c) (zak a c) r then 2 else
 if zc6 b a<=r*r\/zc6 b e<=r*r then 1 else
 if z52 b c a e || !(insI (zc6 b c) (zak a c) r) || !(outI (zeb b c) (zak a c) r)then 0 else 1
theorem zic{b:B4}{p:P2}(hx:b.x0<=b.x1)(hy:b.y0<=b.y1):zc6 b p<=zeb b p:=by
 have q1:hasI b ⟨b.x0,b.y0⟩:=⟨by simp,hx,by simp,hy⟩
 have:=ym6 (p:=p) q1;have:=ynb (p:=p) q1;omega
theorem zhl{b:B4}{c a e:P2}{r:Int}(hb:BR b)(hc:PR c)(ha:PR a)(he:PR e)(ok:okI c a e)(hx:b.x0<=b.x1)(hy:b.y0<=b.y1)(h4:1<=r)(h5:r<=1073741824)(hd:zeb b c<=4000000000000000000)(hr:zak a c<=4000000000000000000):zda b c a e r=zjt b c a e r:=by
 have e2:=zgb (b:=⟨c.x,c.y,c.x,c.y⟩) ⟨hc.x,hc.y,hc.x,hc.y⟩ ha
 have hn:=zgb hb hc
 have hm:=yax hb hc
 have nm:=zic (p:=c) hx hy
 have na:=zic (p:=a) hx hy
 have ne_:=zic (p:=e) hx hy
 have hh:zhc b ⟨b.x0,b.y0⟩=true:=(zit _ _).2 ⟨by simp,hx,by simp,hy⟩
 unfold zda zjt
 rw[(zq6 hc ha he).2 ok,decide_eq_false (show ¬r<1 by omega),hh]
 unfold zb7
 rw[e2.1,zf5,hn.1,hm.1,zf6 hb ha hx hy h4 (by omega),zf6 hb he hx hy h4 (by omega),(ya5 hb hc ha he).1,(ya5 hb hc ha he).2,
  zoe hn.2.1 (by omega) (zff _ _) hr h4 h5,zoe hm.2.1 hd (zff _ _) hr h4 h5,zr2 hn.2.1 (by omega) (zff _ _) hr h4 h5,zr2 hm.2.1 hd (zff _ _) hr h4 h5]
 simp only[zgw,zew,Bool.not_true,Bool.or_false,ziv]
 generalize zc6 b a=NA at *
 generalize zc6 b e=NE at *
 generalize zeb b a=MA at *
 generalize zeb b e=ME at *
 generalize r*r=R at *
 have f1:((if NA>R then 0 else if MA<=R then 2 else 1:Int)==2||(if NE>R then 0 else if ME<=R then 2 else 1:Int)==2)=decide (MA<=R\/ME<=R):=by
  rw[Bool.eq_iff_iff]
  simp only[Bool.or_eq_true,beq_iff_eq,decide_eq_true_eq]
  constructor
  ·rintro(k|k)
   ·split at k
    ·cases k
    ·split at k
     ·left;assumption
     ·cases k
   ·split at k
    ·cases k
    ·split at k
     ·right;assumption
     ·cases k
  ·rintro(k|k)
   ·left;rw[if_neg (by omega),if_pos k]
   ·right;rw[if_neg (by omega),if_pos k]
 have f2:((if NA>R then 0 else if MA<=R then 2 else 1:Int)!=0||(if NE>R then 0 else if ME<=R then 2 else 1:Int)!=0)=decide (NA<=R\/NE<=R):=by
  rw[Bool.eq_iff_iff]
  simp only[Bool.or_eq_true,bne_iff_ne,decide_eq_true_eq]
  constructor
  ·rintro(k|k)
   ·left;split at k
    ·exact absurd rfl k
    ·omega
   ·right;split at k
    ·exact absurd rfl k
    ·omega
  ·rintro(k|k)
   ·left;rw[if_neg (by omega)];split<;>decide
   ·right;rw[if_neg (by omega)];split<;>decide
 rw[f1,f2]
 by_cases k1:MA<=R\/ME<=R
 ·rw[decide_eq_true k1,if_pos k1];rfl
 ·rw[decide_eq_false k1,if_neg k1,ziv]
  cases k2:(liIn b c a e&&outI (zc6 b c) (zak a c) r&&insI (zeb b c) (zak a c) r)
  ·simp only[ziv,Bool.false_eq_true,if_false]
   by_cases k3:NA<=R\/NE<=R
   ·rw[decide_eq_true k3,if_pos k3];rfl
   ·rw[decide_eq_false k3,if_neg k3,ziv]
    cases (z52 b c a e || !insI (zc6 b c) (zak a c) r || !outI (zeb b c) (zak a c) r)<;>rfl
  ·rfl
theorem yg1{b:B4}{c:P2}(hx0 : -536870912<=b.x0)(hx:b.x0<=b.x1)(hx1:b.x1<=536870912)(hy0 : -536870912<=b.y0)(hy:b.y0<=b.y1)(hy1:b.y1<=536870912)(hc:(-400000000<=c.x/\c.x<=400000000)/\(-400000000<=c.y/\c.y<=400000000)):zeb b c<=4000000000000000000:=by
 have e:∀v lo hi:Int,-400000000<=v->v<=400000000->-536870912<=lo->lo<=hi->hi<=536870912->zcz v lo hi*zcz v lo hi<=1000000000*1000000000:=λv lo hi a b c d f=>
  (zus (A:=1000000000) (by unfold zcz;omega) (by unfold zcz;omega)).2
 have a1:=e c.x b.x0 b.x1 hc.1.1 hc.1.2 hx0 hx hx1
 have a2:=e c.y b.y0 b.y1 hc.2.1 hc.2.2 hy0 hy hy1
 unfold zeb;omega
def tbT:List zay:=(32,en5 dP dI dI dI dB (λc f t s sm=>.tuple ⟨[pt (arcC c sm),pt (zm0 c f s sm),pt (zm0 c t s sm)]⟩))::tbF
theorem yi1:∀e∈tbT,zae Tryz.prog e:=List.forall_mem_cons.2 ⟨ykr zck zdy zdy zdy dB_eq arc_ok,zcy⟩
def atP(p:P2)(sm:Bool):P2:=⟨bif sm then(zdc p 20).x else(lPt p).x,bif sm then(zdc p 20).y else(lPt p).y⟩
def dptB(q:Bool):Dyn.DV:=.one (.ptr [.p (vb q)])
def enPb(F:P2->Bool->Dyn.RV):List Dyn.DV->Option (Dyn.RV×List Prop)
 |[.agg [.p (.int .i64 x),.p (.int .i64 y)],.one (.ptr [.p (.bool q)])]=>some (F ⟨x,y⟩ q,[])
 |_=>none
theorem yn9{P:Program}{K:Nat}{F:P2->Bool->Dyn.RV}(h:∀x u,Dyn.zav P K [dvP x,dptB u] (F x u)):Dyn.zbu P (K,enPb F):=λargs r ps hr hp=>by
 dsimp only at hr
 unfold enPb at hr
 split at hr
 ·simp only[Option.some.injEq,Prod.mk.injEq]at hr
  obtain⟨rfl,rfl⟩:=hr
  rename_i x y u
  exact h ⟨x,y⟩ u
 ·cases hr
def RV.pt(p:P2):Dyn.RV:=.val (dvP p)
def yl7:Dyn.Tabs:=Dyn.tabs tbT [] noD noD
theorem yfx:Dyn.zal Tryz.prog yl7:=Dyn.zb0 yi1 (λ_ h=>by cases h)
theorem at_O(p:P2)(sm:Bool):(Dyn.dfun Tryz.prog yl7 Dyn.noLp 3 Tryz.f30 [dvP p,dptB sm]).ro Tryz.prog Tryz.f30.results=.ite sm (.side [W (20+1)≠0] (.leaf (RV.pt (zdc p 20)))) (.leaf (RV.pt (lPt p))):=by kernel_rfl
theorem at_ok(p:P2)(sm:Bool):Dyn.zav Tryz.prog 30 [dvP p,dptB sm] (RV.pt (atP p sm)):=
 Dyn.zbs (lp:=Dyn.noLp) (fuel:=3) (X:=yl7) yfx mo Tryz.func30 (by kernel_rfl) (c:=zbx Tryz.f30.body) (by kernel_rfl) (λw0=>Dyn.zcl _ w0)
  (by kernel_rfl) (at_O p sm) ⟨λh=>by subst h;exact⟨⟨by decide,trivial⟩,zby rfl⟩,λh=>by subst h;exact zby rfl⟩
def drTm(K:Nat):Bool:=Nat.beq K 16||Nat.beq K 33
def tmK0(s:Sh):Int:=W ((W (s.k.tmod 6+6)).tmod 6+1)
def tmKk(s:Sh)(d:Int):Int:=bif bif decide (d>5)then tmK0 s==6 else false then 1 else tmK0 s
def tmR(s:Sh)(sm:Bool):Int:=bif sm then W ((lR s.r).tmod 15+1)else lR s.r
def eqP(a b:P2):Bool:=bif a.x==b.x then bif a.y==b.y then true else false else false
def tmB(s:Sh)(sm:Bool):P2:=
 bif bif eqP (atP s.a sm) (atP s.b sm)then decide ((atP s.b sm).x>0)else false then⟨W ((atP s.b sm).x-1),(atP s.b sm).y⟩else bif eqP (atP s.a sm) (atP s.b sm)then⟨W ((atP s.b sm).x+1),(atP s.b sm).y⟩else atP s.b sm
def ze:P2:=⟨0,0⟩
def zeC:Ctr:=⟨0,λ_=>0,λ_ _=>⟨0,0⟩⟩
def noF(_:Nat):List Dyn.DC:=[]
def tmN(s:Sh)(d:Int):Nat:=min s.n (imax (W (4-d)) 1).toNat
def tmF(g:Sh->Bool->Int->Sh)(sh:Nat->Sh)(add:Nat->Bool)(sm:Bool)(d:Int)(i:Nat):List Dyn.DC:=zbv (add i) (g (sh i) sm (W (d+1)))
def z8i(g:Sh->Bool->Int->Sh)(sh:Nat->Sh)(add:Nat->Bool)(s:Sh)(sm:Bool)(d:Int):Sh:=
 bif tmKk s d==1 then⟨tmKk s d,atP s.a sm,ze,ze,tmR s sm,zeC,0,noF⟩
 else bif bif tmKk s d==3 then tmKk s d==3 else tmKk s d==4 then⟨tmKk s d,atP s.a sm,tmB s sm,ze,tmR s sm,zeC,0,noF⟩
 else bif tmKk s d==5 then⟨tmKk s d,zm0 s.c (band s.a.x 65535) s.b.x sm,zm0 s.c (band s.a.y 65535) s.b.x sm,arcC s.c sm,tmR s sm,zeC,0,noF⟩
 else bif tmKk s d==2 then⟨tmKk s d,ze,ze,ze,0,z4r s.l sm,0,noF⟩
 else⟨tmKk s d,ze,ze,ze,0,zeC,tmN s d,tmF g sh add sm d⟩
def tmZ:List Value:=[vi 0,vi 0,vi 0,vi 0,vi 0,vi 0,vi 0,vi 0,.slice none 0 0,.slice none 0 0]
def tmO10(k:Int)(nm n:Nat):List Value:=[vi k,vi 0,vi 0,vi 0,vi 0,vi 0,vi 0,vi 0,.slice none 0 0,.slice (some ⟨nm,0,some 0⟩) n 0]
def tmK:List Nat:=[2,3,4,6,8,10]
theorem z7o:zam (zbx Tryz.f16.body)=[(0,blkD Tryz.f16.body 0),(1,.loop (zab (blkD Tryz.f16.body 1))),(2,blkD Tryz.f16.body 2)]:=by kernel_rfl
theorem tm_b1:zam (zab (blkD Tryz.f16.body 1))=[(2,blkD Tryz.f16.body 2)]:=by kernel_rfl
def rvT(k:Int)(a b c:P2)(r:Int)(L:Dyn.DC)(n:Nat)(f:Nat->List Dyn.DC):Dyn.RV:=.val (.agg [cI k,cI a.x,cI a.y,cI b.x,cI b.y,cI c.x,cI c.y,cI r,L,.row n f])
def nilR:Dyn.DC:=.row 0 noF
theorem zhj{k:Int}{a b c:P2}{r:Int}{L:Dyn.DC}{n:Nat}{f:Nat->List Dyn.DC}{x:Sh}(hk:x.k=k)(ha:x.a=a)(hb:x.b=b)(hc:x.c=c)(hr:x.r=r)(hL:Dyn.DCLe L (cCtr x.l))(hn:n=x.n)(hf:∀i,i<n->f i=x.f i):(Dyn.RO.leaf (rvT k a b c r L n f)).sat λq=>Dyn.RVLe q (.val (dvS x)):=by
 subst hk;subst ha;subst hb;subst hc;subst hr
 exact⟨rfl,rfl,rfl,rfl,rfl,rfl,rfl,rfl,hL,⟨hn,hf⟩,trivial⟩
theorem zfj:Dyn.DCLe nilR (cCtr zeC):=⟨rfl,λi hi=>by omega⟩
theorem ydr{P:Program}{K:Nat}{args:List Dyn.DV}{r r':Dyn.RV}(h:Dyn.RVLe r r')(k:Dyn.zav P K args r):Dyn.zav P K args r':=λw F us hF hd=>by
 have:=k w F us hF hd
 split at this
 ·rename_i u w' hr
  exact⟨Dyn.zjq h this.1,this.2⟩
 ·rename_i f as' w' hr
  refine⟨this.1,this.2.mono λe w'' he=>?_⟩
  obtain⟨u,h1,h2,h3⟩:=he
  exact⟨u,h1,Dyn.zjq h h2,h3⟩
 ·exact this.elim
def zor(k:Int)(a b c:P2)(r:Int)(l:Ctr):Shp:=.mk k a b c r l 0 (λ_=>false) (λ_=>.nil)
def zl4:Shp->Bool->Int->Shp
 |.nil,_,_=>.nil
 |.mk k a b c r l n add sub,sm,d=>
  let s:Sh:=⟨k,a,b,c,r,l,n,noF⟩
  bif tmKk s d==1 then zor (tmKk s d) (atP a sm) ze ze (tmR s sm) zeC
  else bif bif tmKk s d==3 then tmKk s d==3 else tmKk s d==4 then zor (tmKk s d) (atP a sm) (tmB s sm) ze (tmR s sm) zeC
  else bif tmKk s d==5 then zor (tmKk s d) (zm0 c (band a.x 65535) b.x sm) (zm0 c (band a.y 65535) b.x sm) (arcC c sm) (tmR s sm) zeC
  else bif tmKk s d==2 then zor (tmKk s d) ze ze ze 0 (z4r l sm)
  else .mk (tmKk s d) ze ze ze 0 zeC (tmN s d) add (λi=>zl4 (sub i) sm (W (d+1)))
noncomputable def zpq(x:Sh)(sm:Bool)(d:Int):Sh:=toSh (zl4 (ofSh x) sm d)
theorem zun(s:Shp)(sm:Bool)(d:Int):zpq (toSh s) sm d=toSh (zl4 s sm d):=by unfold zpq;rw[za7]
theorem zgk(k:Int)(a b c:P2)(r:Int)(l:Ctr):Dyn.DVLe (dvS ⟨k,a,b,c,r,l,0,noF⟩) (dvS (toSh (zor k a b c r l))):=⟨rfl,rfl,rfl,rfl,rfl,rfl,rfl,rfl,Dyn.DCLe.refl _,⟨rfl,λi hi=>absurd hi (Nat.not_lt_zero _)⟩,trivial⟩
theorem yle{K:Int}(D1 D2 D3 D4 D5:Sh)(E1 E2 E3 E4 E5:Shp)(h1:Dyn.DVLe (dvS D1) (dvS (toSh E1)))(h2:Dyn.DVLe (dvS D2) (dvS (toSh E2)))(h3:Dyn.DVLe (dvS D3) (dvS (toSh E3)))(h4:Dyn.DVLe (dvS D4) (dvS (toSh E4)))(h5:Dyn.DVLe (dvS D5) (dvS (toSh E5))) :
  Dyn.DVLe (dvS (bif K==1 then D1 else bif bif K==3 then K==3 else K==4 then D2 else bif K==5 then D3 else bif K==2 then D4 else D5)) (dvS (toSh (bif K==1 then E1 else bif bif K==3 then K==3 else K==4 then E2 else bif K==5 then E3 else bif K==2 then E4 else E5))):=by
 cases K==1
 ·cases (bif K==3 then K==3 else K==4)
  ·cases K==5
   ·cases K==2
    ·exact h5
    ·exact h4
   ·exact h3
  ·exact h2
 ·exact h1
theorem z8h(k:Int)(a b c:P2)(r:Int)(l:Ctr)(n:Nat)(add:Nat->Bool)(sub:Nat->Shp)(sm:Bool)(d:Int) :
  Dyn.DVLe (dvS (z8i zpq (λi=>toSh (sub i)) add (mkSh k a b c r l n add (λi=>toSh (sub i))) sm d)) (dvS (toSh (zl4 (.mk k a b c r l n add sub) sm d))):=by
 refine yle (K:=tmKk ⟨k,a,b,c,r,l,n,noF⟩ d) _ _ _ _ _ _ _ _ _ _ (zgk _ _ _ _ _ _) (zgk _ _ _ _ _ _) (zgk _ _ _ _ _ _) (zgk _ _ _ _ _ _) ?_
 refine⟨rfl,rfl,rfl,rfl,rfl,rfl,rfl,rfl,Dyn.DCLe.refl _,⟨rfl,λi hi=>?_⟩,trivial⟩
 show zbv (add i) (zpq (toSh (sub i)) sm (W (d+1)))=zbv (add i) (toSh (zl4 (sub i) sm (W (d+1))))
 rw[zun]
def zl(b:Bool):List Dyn.DC->List Dyn.DC->List Dyn.DC
 |a::us,z::zs=>(bif b then a else z)::zl b us zs
 |_,_=>[]
theorem zl_t:∀{us zs:List Dyn.DC},us.length=zs.length->zl true us zs=us
 |[],[],_=>rfl
 |a::us,z::zs,h=>by show a::zl true us zs=_;rw[zl_t (Nat.succ.inj h)]
theorem zl_f:∀{us zs:List Dyn.DC},us.length=zs.length->zl false us zs=zs
 |[],[],_=>rfl
 |a::us,z::zs,h=>by show z::zl false us zs=_;rw[zl_f (Nat.succ.inj h)]
def fil(F:Nat->List Dyn.DC)(z:List Dyn.DC)(i:Nat):Nat->List Dyn.DC:=λj=>zl (Nat.blt j i) (F j) z
theorem zr9{F:Nat->List Dyn.DC}{z:List Dyn.DC}{i j:Nat}(hl:(F j).length=z.length)(h:j<i):fil F z i j=F j:=by
 unfold fil
 rw[show Nat.blt j i=true from Nat.ble_eq_true_of_le h];exact zl_t hl
theorem z0t{F:Nat->List Dyn.DC}{z:List Dyn.DC}{i j:Nat}(hl:(F j).length=z.length)(h:¬j<i):fil F z i j=z:=by
 unfold fil
 rw[show Nat.blt j i=false by rw[Bool.eq_false_iff];exact λe=>h (Nat.le_of_ble_eq_true e)];exact zl_f hl
theorem z3h{t:TypeId}{n i:Nat}{F:Nat->List Dyn.DC}{z ds:List Dyn.DC}{off:Nat}(hl:∀j,(F j).length=z.length)(h:Dyn.zgh z off ds=F i):Dyn.HeLe (some (.own t n (Dyn.updF (fil F z i) i off ds))) (some (.own t n (fil F z (i+1)))):=by
 refine⟨rfl,rfl,λj hj=>?_⟩
 unfold Dyn.updF
 by_cases e:j=i
 ·subst e
  rw[show Nat.beq j j=true from Nat.beq_refl j,zr9 (hl j) (show j<j+1 by omega),z0t (hl j) (by omega)]
  exact h
 ·rw[show Nat.beq j i=false by rw[Bool.eq_false_iff];exact λq=>e (Nat.eq_of_beq_eq_true q)]
  by_cases l:j<i
  ·rw[zr9 (hl j) l,zr9 (hl j) (by omega)];rfl
  ·rw[z0t (hl j) l,z0t (hl j) (by omega)];rfl
def yk8(l:Ctr)(t:Tn):Ctr:=⟨l.n,l.m,λi k=>zan (l.p i k) t⟩
def apP(l:Ctr)(t:Tn)(i k:Nat):List Dyn.DC:=cP (zan (l.p i k) t)
def apR(l:Ctr)(t:Tn)(i:Nat):List Dyn.DC:=[cRow (l.m i) (λk=>zan (l.p i k) t)]
def apZ1:List Dyn.DC:=[nilR]
def apZ3:List Dyn.DC:=[cB false,cI 0,cI 0,cI 0,cI 0,cI 0,cI 0,cI 0,cI 0,nilR,nilR]
theorem znp{P:Program}{w0:Dyn.Base P}{id:Nat}{c:Code}{s s1 s2:Dyn.St}{e:zcg}(h:Dyn.zai P w0 id c s (.leaf e s1))(f:Dyn.Fits s1 s2):Dyn.zai P w0 id c s (.leaf e s2):=λQ a w β m ng ho=>h Q a w β m ng (λβ a w m ng=>by
 obtain⟨β',m',ng'⟩:=Dyn.Ent.fits f β a w m ng
 exact ho β' a w m' ng')
def apF(g:Sh->Tn->Sh)(sh:Nat->Sh)(add:Nat->Bool)(t:Tn)(i:Nat):List Dyn.DC:=zbv (add i) (g (sh i) t)
def szM(b n:Nat):Prop:=0<=(n:Int)/\(n:Int)<=n/\(n:Int)<=9223372036854775807/\(b:Int)*(n:Int)<=281474976710656
theorem z2d{b n:Nat}(hb:b<=1000)(hn:n<=1000000000):szM b n:=by
 refine⟨by omega,by omega,by omega,?_⟩
 have:b*n<=1000*1000000000:=Nat.mul_le_mul hb hn
 have h2:(b:Int)*(n:Int)=((b*n:Nat):Int):=by rw[Int.natCast_mul]
 rw[h2];omega
def apZ2:List Dyn.DC:=[.p (vi 0),.p (vi 0)]
def tdA(Pd:Sh->Prop)(g:Sh->Tn->Sh):List Dyn.zb2:=[(18,en2D (qAnd qS Pd) qT λx t=>.val (dvS (g x t)))]
def drA(K:Nat):Bool:=Nat.beq K 18
def z87(Pd:Sh->Prop)(g:Sh->Tn->Sh):Dyn.Tabs:=Dyn.tabs tf6 (tdA Pd g) drA dtyS
theorem zp3{Pd:Sh->Prop}{g:Sh->Tn->Sh}(ih:∀x,Pd x->∀t,Dyn.zav Tryz.prog 18 [dvS x,dvT t] (.val (dvS (g x t)))):Dyn.zal Tryz.prog (z87 Pd g):=
 Dyn.zb0 yiz (List.forall_mem_cons.2 ⟨zgc (zbl zgt) ymp λx t h _=>ih x h.1 t,λ_ h=>by cases h⟩)
def apV(k r:Int)(L Q:Value):List Value:=[vi k,vi 0,vi 0,vi 0,vi 0,vi 0,vi 0,vi r,L,Q]
def tnV(t:Tn):List Value:=[vb t.mx,vb t.my,vi t.q,vi t.u.x,vi t.u.y]
def apS(s:Sh)(t:Tn)(i:Int)(f:Nat->List Dyn.DC):Dyn.St:=mkS 134 [(2,sL 1),(3,sL 2),(4,sL 3),(5,sL 4),(76,sH 0 8 s.l.n),(77,sI s.l.n),(78,sI i)]
 [some (.deep (cS s)),some (.cells 37 (shV 0 8 s)),some (.cells 28 (tnV t)),some (.cells 37 tmZ),some (.cells 37 (apV s.k s.r (.slice (some ⟨5,0,some 0⟩) s.l.n 0) (.slice none 0 0))),some (.own 77 s.l.n f)]
def apT(s:Sh)(t:Tn)(i:Int)(f:Nat->List Dyn.DC)(j:Int)(f2:Nat->List Dyn.DC):Dyn.St:=mkS 134 [(2,sL 1),(3,sL 2),(4,sL 3),(5,sL 4),(6,sI i),(7,sH 5 0 (s.l.m i.toNat)),(8,sH 6 0 (s.l.m i.toNat)),(76,sH 0 8 s.l.n),(77,sI s.l.n),(78,sI i),(86,sH 5 0 (s.l.m i.toNat)),(87,sI (s.l.m i.toNat)),(88,sI j)]
 [some (.deep (cS s)),some (.cells 37 (shV 0 8 s)),some (.cells 28 (tnV t)),some (.cells 37 tmZ),some (.cells 37 (apV s.k s.r (.slice (some ⟨7,0,some 0⟩) s.l.n 0) (.slice none 0 0))),some (.deep [cRow (s.l.m i.toNat) (s.l.p i.toNat)]),some (.own 26 (s.l.m i.toNat) f2),some (.own 77 s.l.n f)]
def apU(s:Sh)(t:Tn)(i:Int)(f:Nat->List Dyn.DC):Dyn.St:=mkS 134 [(2,sL 1),(3,sL 2),(4,sL 3),(5,sL 4),(114,sH 0 9 s.n),(115,sI s.n),(116,sI i)]
 [some (.deep (cS s)),some (.cells 37 (shV 0 8 s)),some (.cells 28 (tnV t)),some (.cells 37 tmZ),some (.cells 37 (apV s.k s.r (.slice none 0 0) (.slice (some ⟨5,0,some 0⟩) s.n 0))),some (.own 79 s.n f)]
def apK0:List Nat:=[2,3,4,5,76,77,78]
def apK1:List Nat:=[2,3,4,5,6,7,8,76,77,78,86,87,88]
def apK2:List Nat:=[2,3,4,5,114,115,116]
def apLp(g:Sh->Tn->Sh)(sh:Nat->Sh)(add:Nat->Bool)(s:Sh)(t:Tn):Dyn.Lp:=λid st=>match id with
 |1=>some (.side [zvi 134 [0,1,2,3,9] [] [(9,8)] apK0 (2 ^ 78) st=apS s t 0 (fil (apR s.l t) apZ1 0)] (.leaf .normal (apS s t (s.l.n:Nat) (apR s.l t))))
 |3=>
  let i:=intD (st.slots.getD 6 .junk)
  some (.side [zvi 134 [0,1,2,3,4] [7,8] [(4,8)] apK1 (2 ^ 88) st=apT s t i (fil (apR s.l t) apZ1 i.toNat) 0 (fil (apP s.l t i.toNat) apZ2 0),0<=i/\i<s.l.n] (.leaf .normal (apT s t i (fil (apR s.l t) apZ1 i.toNat) (s.l.m i.toNat:Nat) (apP s.l t i.toNat))))
 |5=>some (.side [zvi 134 [0,1,2,3,9] [] [(9,9)] apK2 (2 ^ 116) st=apU s t 0 (fil (apF g sh add t) apZ3 0)] (.leaf .normal (apU s t (s.n:Nat) (apF g sh add t))))
 |_=>none
def apBi(s:Sh)(t:Tn)(i:Nat)(f:Nat->List Dyn.DC)(j:Nat):Dyn.Out:=
 .ite (decide ((j:Int)<s.l.m i)) (.side [0<=(j:Int)/\(j:Int)<s.l.m i] (.side [0<=(j:Int)/\(j:Int)<s.l.m i] (.leaf .normal (apT s t i f (W (j+1)) (Dyn.updF (fil (apP s.l t i) apZ2 j) j 0 (cP (zan (s.l.p i j) t))))))) (.leaf (.exit 3) (apT s t i f j (fil (apP s.l t i) apZ2 j)))
def apBo(s:Sh)(t:Tn)(i:Nat):Dyn.Out:=
 .ite (decide ((i:Int)<s.l.n)) (.side [0<=(i:Int)/\(i:Int)<s.l.n] (.side [szM 16 (s.l.m i)] (.side [apT s t i (fil (apR s.l t) apZ1 i) 0 (fil (apP s.l t i) apZ2 0)=apT s t i (fil (apR s.l t) apZ1 i) 0 (fil (apP s.l t i) apZ2 0),0<=(i:Int)/\(i:Int)<s.l.n] (.side [0<=(i:Int)/\(i:Int)<s.l.n] (.leaf .normal (apS s t (W (i+1)) (Dyn.updF (fil (apR s.l t) apZ1 i) i 0 (apR s.l t i)))))))) (.leaf (.exit 1) (apS s t i (fil (apR s.l t) apZ1 i)))
def apBp(Pd:Sh->Prop)(g:Sh->Tn->Sh)(sh:Nat->Sh)(add:Nat->Bool)(s:Sh)(t:Tn)(i:Nat):Dyn.Out:=
 .ite (decide ((i:Int)<s.n)) (.side [0<=(i:Int)/\(i:Int)<s.n] (.side [Pd (sh i),zbz (sh i).l,0<=(i:Int)/\(i:Int)<s.n] (.leaf .normal (apU s t (W (i+1)) (Dyn.updF (fil (apF g sh add t) apZ3 i) i 0 (apF g sh add t i)))))) (.leaf (.exit 5) (apU s t i (fil (apF g sh add t) apZ3 i)))
theorem ap_Bi(Pd:Sh->Prop)(g:Sh->Tn->Sh)(sh:Nat->Sh)(add:Nat->Bool)(s:Sh)(t:Tn)(i:Nat)(f:Nat->List Dyn.DC)(j:Nat):(Dyn.zbm Tryz.prog (z87 Pd g) (apLp g sh add s t) 3 (zab (blkD Tryz.f18.body 3)) .leaf (apT s t i f j (fil (apP s.l t i) apZ2 j))).rl (zfc 134 [0,1,2,3,4] [7,8] [(4,8)] apK1 [] [])=apBi s t i f j:=by kernel_rfl
theorem ap_Bo(Pd:Sh->Prop)(g:Sh->Tn->Sh)(sh:Nat->Sh)(add:Nat->Bool)(s:Sh)(t:Tn)(i:Nat):(Dyn.zbm Tryz.prog (z87 Pd g) (apLp g sh add s t) 3 (zab (blkD Tryz.f18.body 1)) .leaf (apS s t i (fil (apR s.l t) apZ1 i))).rl (zfc 134 [0,1,2,3,4] [] [(4,8)] apK0 [] [])=apBo s t i:=by kernel_rfl
theorem ap_Bp(Pd:Sh->Prop)(g:Sh->Tn->Sh)(k:Int)(a b c:P2)(r:Int)(l:Ctr)(n:Nat)(add:Nat->Bool)(sh:Nat->Sh)(t:Tn)(i:Nat):(Dyn.zbm Tryz.prog (z87 Pd g) (apLp g sh add (mkSh k a b c r l n add sh) t) 3 (zab (blkD Tryz.f18.body 5)) .leaf (apU (mkSh k a b c r l n add sh) t i (fil (apF g sh add t) apZ3 i))).rl (zfc 134 [0,1,2,3,4] [] [(4,9)] apK2 [] [])=apBp Pd g sh add (mkSh k a b c r l n add sh) t i:=by kernel_rfl
theorem yc9:zam (zbx Tryz.f18.body)=[(0,blkD Tryz.f18.body 0),(1,.loop (zab (blkD Tryz.f18.body 1))),(2,blkD Tryz.f18.body 2),(3,.loop (zab (blkD Tryz.f18.body 3))),(4,blkD Tryz.f18.body 4),(5,.loop (zab (blkD Tryz.f18.body 5))),(6,blkD Tryz.f18.body 6)]:=by kernel_rfl
theorem ap_b1:zam (zab (blkD Tryz.f18.body 1))=[(2,blkD Tryz.f18.body 2),(3,.loop (zab (blkD Tryz.f18.body 3))),(4,blkD Tryz.f18.body 4)]:=by kernel_rfl
theorem ap_b3:zam (zab (blkD Tryz.f18.body 3))=[(4,blkD Tryz.f18.body 4)]:=by kernel_rfl
theorem ap_b5:zam (zab (blkD Tryz.f18.body 5))=[(6,blkD Tryz.f18.body 6)]:=by kernel_rfl
theorem z4e{Pd:Sh->Prop}{g:Sh->Tn->Sh}(ih:∀x,Pd x->∀t,Dyn.zav Tryz.prog 18 [dvS x,dvT t] (.val (dvS (g x t))))(sh:Nat->Sh)(add:Nat->Bool)(s:Sh)(hl:CtrB s.l)(t:Tn)(w0:Dyn.Base Tryz.prog)(st:Dyn.St)(o:Dyn.Out)
  (h:apLp g sh add s t 3 st=some o):Dyn.zai Tryz.prog w0 3 (.loop (zab (blkD Tryz.f18.body 3))) st o:=by
 simp only[apLp,Option.some.injEq]at h
 subst h
 refine zdv λhS hi=>?_
 revert hS hi
 generalize intD (st.slots.getD 6 .junk)=i'
 intro hS hi
 obtain⟨i,rfl⟩:∃i:Nat,i'=(i:Int):=⟨i'.toNat,by omega⟩
 have hm:s.l.m i<=1000000000:=hl.2 i (by omega)
 refine znp (s1:=apT s t i (fil (apR s.l t) apZ1 i) (s.l.m i:Nat) (fil (apP s.l t i) apZ2 (s.l.m i))) (za9 (fuel:=3) (zp3 ih) mo (lp:=apLp g sh add s t) (by rw[ap_b3];exact zaa (λs o h=>by cases h) zao) (λj (_:Unit)=>apT s t i (fil (apR s.l t) apZ1 i) j (fil (apP s.l t i) apZ2 j)) (s.l.m i) (λ_ _=>()) () (zfc 134 [0,1,2,3,4] [7,8] [(4,8)] apK1 [] []) (zed 134 _ _ _ _ _ _) (λj _=>apBi s t i (fil (apR s.l t) apZ1 i) j) (λj _=>ap_Bi Pd g sh add s t i _ j) (λj hj=>?_) ?_ (hS▸zf2 134 _ _ _ _ _ st)) ?_
 ·refine⟨λ_=>⟨⟨⟨by omega,by omega⟩,trivial⟩,⟨⟨by omega,by omega⟩,trivial⟩,rfl,?_⟩,λhf=>?_⟩
  ·rw[Wn1 hj hm]
   exact⟨rfl,Dyn.HeLe.refl _,Dyn.HeLe.refl _,Dyn.HeLe.refl _,Dyn.HeLe.refl _,Dyn.HeLe.refl _,Dyn.HeLe.refl _,z3h (λ_=>rfl) rfl,Dyn.HeLe.refl _,trivial⟩
  ·rw[decide_eq_false_iff_not]at hf;omega
 ·refine⟨λht=>?_,λ_=>⟨rfl,Dyn.Fits.refl _⟩⟩
  rw[decide_eq_true_eq]at ht;omega
 ·exact⟨rfl,Dyn.HeLe.refl _,Dyn.HeLe.refl _,Dyn.HeLe.refl _,Dyn.HeLe.refl _,Dyn.HeLe.refl _,Dyn.HeLe.refl _,⟨rfl,rfl,λj hj=>zr9 rfl hj⟩,Dyn.HeLe.refl _,trivial⟩
theorem yin{Pd:Sh->Prop}{g:Sh->Tn->Sh}(ih:∀x,Pd x->∀t,Dyn.zav Tryz.prog 18 [dvS x,dvT t] (.val (dvS (g x t))))(sh:Nat->Sh)(add:Nat->Bool)(s:Sh)(hl:CtrB s.l)(t:Tn)(w0:Dyn.Base Tryz.prog)(st:Dyn.St)(o:Dyn.Out)
  (h:apLp g sh add s t 1 st=some o):Dyn.zai Tryz.prog w0 1 (.loop (zab (blkD Tryz.f18.body 1))) st o:=by
 simp only[apLp,Option.some.injEq]at h
 subst h
 refine zcc λhS=>?_
 refine znp (s1:=apS s t (s.l.n:Nat) (fil (apR s.l t) apZ1 s.l.n)) (za9 (fuel:=3) (zp3 ih) mo (lp:=apLp g sh add s t) (by rw[ap_b1];exact zaa (λs o h=>by cases h) (zaa (z4e ih sh add s hl t w0) (zaa (λs o h=>by cases h) zao))) (λi (_:Unit)=>apS s t i (fil (apR s.l t) apZ1 i)) s.l.n (λ_ _=>()) () (zfc 134 [0,1,2,3,4] [] [(4,8)] apK0 [] []) (zed 134 _ _ _ _ _ _) (λi _=>apBo s t i) (λi _=>ap_Bo Pd g sh add s t i) (λi hi=>?_) ?_ (hS▸zf2 134 _ _ _ _ _ st)) ?_
 ·have hb:0<=(i:Int)/\(i:Int)<s.l.n:=⟨by omega,by omega⟩
  refine⟨λ_=>⟨⟨hb,trivial⟩,⟨z2d (by decide) (hl.2 i hi),trivial⟩,⟨rfl,hb,trivial⟩,⟨hb,trivial⟩,rfl,?_⟩,λhf=>?_⟩
  ·rw[Wn1 hi hl.1]
   exact⟨rfl,Dyn.HeLe.refl _,Dyn.HeLe.refl _,Dyn.HeLe.refl _,Dyn.HeLe.refl _,Dyn.HeLe.refl _,z3h (λ_=>rfl) rfl,trivial⟩
  ·rw[decide_eq_false_iff_not]at hf;omega
 ·refine⟨λht=>?_,λ_=>⟨rfl,Dyn.Fits.refl _⟩⟩
  rw[decide_eq_true_eq]at ht;omega
 ·exact⟨rfl,Dyn.HeLe.refl _,Dyn.HeLe.refl _,Dyn.HeLe.refl _,Dyn.HeLe.refl _,Dyn.HeLe.refl _,⟨rfl,rfl,λj hj=>zr9 rfl hj⟩,trivial⟩
theorem yim{Pd:Sh->Prop}{g:Sh->Tn->Sh}(ih:∀x,Pd x->∀t,Dyn.zav Tryz.prog 18 [dvS x,dvT t] (.val (dvS (g x t))))(k:Int)(a b c:P2)(r:Int)(l:Ctr)(n:Nat)(add:Nat->Bool)(sh:Nat->Sh)(hn:n<=1000000000)(hP:∀i,i<n->Pd (sh i))(t:Tn)(w0:Dyn.Base Tryz.prog)(st:Dyn.St)(o:Dyn.Out)
  (h:apLp g sh add (mkSh k a b c r l n add sh) t 5 st=some o):Dyn.zai Tryz.prog w0 5 (.loop (zab (blkD Tryz.f18.body 5))) st o:=by
 simp only[apLp,Option.some.injEq]at h
 subst h
 refine zcc λhS=>?_
 refine znp (s1:=apU (mkSh k a b c r l n add sh) t (n:Nat) (fil (apF g sh add t) apZ3 n)) (za9 (fuel:=3) (zp3 ih) mo (lp:=apLp g sh add (mkSh k a b c r l n add sh) t) (by rw[ap_b5];exact zaa (λs o h=>by cases h) zao) (λi (_:Unit)=>apU (mkSh k a b c r l n add sh) t i (fil (apF g sh add t) apZ3 i)) n (λ_ _=>()) () (zfc 134 [0,1,2,3,4] [] [(4,9)] apK2 [] []) (zed 134 _ _ _ _ _ _) (λi _=>apBp Pd g sh add (mkSh k a b c r l n add sh) t i) (λi _=>ap_Bp Pd g k a b c r l n add sh t i) (λi hi=>?_) ?_ (hS▸zf2 134 _ _ _ _ _ st)) ?_
 ·have hb:0<=(i:Int)/\(i:Int)<(n:Int):=⟨by omega,by omega⟩
  refine⟨λ_=>⟨⟨hb,trivial⟩,⟨hP i hi,zau _,hb,trivial⟩,rfl,?_⟩,λhf=>?_⟩
  ·rw[Wn1 hi hn]
   exact⟨rfl,Dyn.HeLe.refl _,Dyn.HeLe.refl _,Dyn.HeLe.refl _,Dyn.HeLe.refl _,Dyn.HeLe.refl _,z3h (λ_=>rfl) rfl,trivial⟩
  ·rw[decide_eq_false_iff_not]at hf
   exact absurd hb.2 hf
 ·refine⟨λht=>?_,λ_=>⟨rfl,Dyn.Fits.refl _⟩⟩
  rw[decide_eq_true_eq]at ht
  exact absurd (show(n:Int)<(n:Int)from ht) (by omega)
 ·exact⟨rfl,Dyn.HeLe.refl _,Dyn.HeLe.refl _,Dyn.HeLe.refl _,Dyn.HeLe.refl _,Dyn.HeLe.refl _,⟨rfl,rfl,λj hj=>zr9 rfl hj⟩,trivial⟩
def apO(g:Sh->Tn->Sh)(sh:Nat->Sh)(add:Nat->Bool)(s:Sh)(t:Tn):Dyn.RO:=
 .ite (s.k==1) (.leaf (rvT s.k (zan s.a t) ze ze s.r nilR 0 noF))
 (.ite (bif s.k==3 then s.k==3 else s.k==4) (.leaf (rvT s.k (zan s.a t) (zan s.b t) ze s.r nilR 0 noF))
 (.ite (s.k==5) (.ite (t.mx != t.my) (.leaf (rvT s.k (zan s.b t) (zan s.a t) (zan s.c t) s.r nilR 0 noF)) (.leaf (rvT s.k (zan s.a t) (zan s.b t) (zan s.c t) s.r nilR 0 noF)))
 (.ite (s.k==2) (.side [szM 24 s.l.n] (.side [apS s t 0 (fil (apR s.l t) apZ1 0)=apS s t 0 (fil (apR s.l t) apZ1 0)] (.leaf (rvT s.k ze ze ze s.r (.row s.l.n (apR s.l t)) 0 noF))))
 (.ite (s.k==6) (.side [szM 120 s.n] (.side [apU s t 0 (fil (apF g sh add t) apZ3 0)=apU s t 0 (fil (apF g sh add t) apZ3 0)] (.leaf (rvT s.k ze ze ze s.r nilR s.n (apF g sh add t)))))
  (.leaf (rvT s.k ze ze ze s.r nilR 0 noF))))))
theorem ap_O(Pd:Sh->Prop)(g:Sh->Tn->Sh)(sh:Nat->Sh)(add:Nat->Bool)(s:Sh)(t:Tn):(Dyn.dfun Tryz.prog (z87 Pd g) (apLp g sh add s t) 3 Tryz.f18 [dvS s,dvT t]).ro Tryz.prog Tryz.f18.results=apO g sh add s t:=by kernel_rfl
def zy7(g:Sh->Tn->Sh)(sh:Nat->Sh)(add:Nat->Bool)(s:Sh)(t:Tn):Sh:=
 bif s.k==1 then⟨s.k,zan s.a t,ze,ze,s.r,zeC,0,noF⟩
 else bif bif s.k==3 then s.k==3 else s.k==4 then⟨s.k,zan s.a t,zan s.b t,ze,s.r,zeC,0,noF⟩
 else bif s.k==5 then⟨s.k,bif t.mx != t.my then zan s.b t else zan s.a t,bif t.mx != t.my then zan s.a t else zan s.b t,zan s.c t,s.r,zeC,0,noF⟩
 else bif s.k==2 then⟨s.k,ze,ze,ze,s.r,yk8 s.l t,0,noF⟩
 else bif s.k==6 then⟨s.k,ze,ze,ze,s.r,zeC,s.n,apF g sh add t⟩
 else⟨s.k,ze,ze,ze,s.r,zeC,0,noF⟩
theorem ap_sat(g:Sh->Tn->Sh)(sh:Nat->Sh)(add:Nat->Bool)(s:Sh)(hl:CtrB s.l)(hn:s.n<=1000000000)(t:Tn):(apO g sh add s t).sat λr=>Dyn.RVLe r (.val (dvS (zy7 g sh add s t))):=by
 unfold zy7
 refine⟨λh=>?_,λh=>⟨λh2=>?_,λh2=>⟨λh3=>⟨λh4=>?_,λh4=>?_⟩,λh3=>⟨λh4=>⟨⟨z2d (by decide) hl.1,trivial⟩,⟨rfl,trivial⟩,?_⟩,λh4=>⟨λh5=>⟨⟨z2d (by decide) hn,trivial⟩,⟨rfl,trivial⟩,?_⟩,λh5=>?_⟩⟩⟩⟩⟩
 ·rw[h];exact zhj rfl rfl rfl rfl rfl zfj rfl λ_ _=>rfl
 ·rw[h,h2];exact zhj rfl rfl rfl rfl rfl zfj rfl λ_ _=>rfl
 ·rw[h,h2,h3,h4];exact zhj rfl rfl rfl rfl rfl zfj rfl λ_ _=>rfl
 ·rw[h,h2,h3,h4];exact zhj rfl rfl rfl rfl rfl zfj rfl λ_ _=>rfl
 ·rw[h,h2,h3,h4];exact zhj rfl rfl rfl rfl rfl (Dyn.DCLe.refl _) rfl λ_ _=>rfl
 ·rw[h,h2,h3,h4,h5];exact zhj rfl rfl rfl rfl rfl zfj rfl λ_ _=>rfl
 ·rw[h,h2,h3,h4,h5];exact zhj rfl rfl rfl rfl rfl zfj rfl λ_ _=>rfl
theorem yc7{Pd:Sh->Prop}{g:Sh->Tn->Sh}(ih:∀x,Pd x->∀t,Dyn.zav Tryz.prog 18 [dvS x,dvT t] (.val (dvS (g x t))))(k:Int)(a b c:P2)(r:Int)(l:Ctr)(n:Nat)(add:Nat->Bool)(sh:Nat->Sh)(hl:CtrB l)(hn:n<=1000000000)(hP:∀i,i<n->Pd (sh i))(t:Tn) :
  Dyn.zav Tryz.prog 18 [dvS (mkSh k a b c r l n add sh),dvT t] (.val (dvS (zy7 g sh add (mkSh k a b c r l n add sh) t))):=
 Dyn.zbs (lp:=apLp g sh add (mkSh k a b c r l n add sh) t) (fuel:=3) (zp3 ih) mo Tryz.func18 (by kernel_rfl) (c:=zbx Tryz.f18.body) (by kernel_rfl)
  (λw0=>by
   rw[yc9]
   exact zaa (λs o h=>by cases h) (zaa (yin ih sh add _ hl t w0) (zaa (λs o h=>by cases h) (zaa (z4e ih sh add _ hl t w0) (zaa (λs o h=>by cases h) (zaa (yim ih k a b c r l n add sh hn hP t w0) (zaa (λs o h=>by cases h) zao)))))))
  (by kernel_rfl) (ap_O Pd g sh add _ t) (ap_sat g sh add (mkSh k a b c r l n add sh) hl hn t)
def zga:Shp->Tn->Shp
 |.nil,_=>.nil
 |.mk k a b c r l n add sub,t=>
  bif k==1 then zor k (zan a t) ze ze r zeC
  else bif bif k==3 then k==3 else k==4 then zor k (zan a t) (zan b t) ze r zeC
  else bif k==5 then zor k (bif t.mx != t.my then zan b t else zan a t) (bif t.mx != t.my then zan a t else zan b t) (zan c t) r zeC
  else bif k==2 then zor k ze ze ze r (yk8 l t)
  else bif k==6 then .mk k ze ze ze r zeC n add (λi=>zga (sub i) t)
  else zor k ze ze ze r zeC
noncomputable def zhe(x:Sh)(t:Tn):Sh:=toSh (zga (ofSh x) t)
theorem z1v(s:Shp)(t:Tn):zhe (toSh s) t=toSh (zga s t):=by unfold zhe;rw[za7]
theorem yo9{K:Int}(D1 D2 D3 D4 D5 D6:Sh)(E1 E2 E3 E4 E5 E6:Shp)(h1:Dyn.DVLe (dvS D1) (dvS (toSh E1)))(h2:Dyn.DVLe (dvS D2) (dvS (toSh E2)))(h3:Dyn.DVLe (dvS D3) (dvS (toSh E3)))(h4:Dyn.DVLe (dvS D4) (dvS (toSh E4)))(h5:Dyn.DVLe (dvS D5) (dvS (toSh E5)))(h6:Dyn.DVLe (dvS D6) (dvS (toSh E6))) :
  Dyn.DVLe (dvS (bif K==1 then D1 else bif bif K==3 then K==3 else K==4 then D2 else bif K==5 then D3 else bif K==2 then D4 else bif K==6 then D5 else D6)) (dvS (toSh (bif K==1 then E1 else bif bif K==3 then K==3 else K==4 then E2 else bif K==5 then E3 else bif K==2 then E4 else bif K==6 then E5 else E6))):=by
 cases K==1
 ·cases (bif K==3 then K==3 else K==4)
  ·cases K==5
   ·cases K==2
    ·cases K==6
     ·exact h6
     ·exact h5
    ·exact h4
   ·exact h3
  ·exact h2
 ·exact h1
theorem z7f(k:Int)(a b c:P2)(r:Int)(l:Ctr)(n:Nat)(add:Nat->Bool)(sub:Nat->Shp)(t:Tn) :
  Dyn.DVLe (dvS (zy7 zhe (λi=>toSh (sub i)) add (mkSh k a b c r l n add (λi=>toSh (sub i))) t)) (dvS (toSh (zga (.mk k a b c r l n add sub) t))):=by
 refine yo9 (K:=k) _ _ _ _ _ _ _ _ _ _ _ _ (zgk _ _ _ _ _ _) (zgk _ _ _ _ _ _) (zgk _ _ _ _ _ _) (zgk _ _ _ _ _ _) ?_ (zgk _ _ _ _ _ _)
 refine⟨rfl,rfl,rfl,rfl,rfl,rfl,rfl,rfl,Dyn.DCLe.refl _,⟨rfl,λi hi=>?_⟩,trivial⟩
 show zbv (add i) (zhe (toSh (sub i)) t)=zbv (add i) (toSh (zga (sub i) t))
 rw[z1v]
theorem yd1:∀s:Shp,ShB s->∀t,Dyn.zav Tryz.prog 18 [dvS (toSh s),dvT t] (.val (dvS (zhe (toSh s) t))):=by
 intro s
 induction s with
 |nil=>intro h;exact h.elim
 |mk k a b c r l n add sub ih=>
  intro h t
  rw[z1v]
  refine ydr (r:=.val (dvS (zy7 zhe (λi=>toSh (sub i)) add (mkSh k a b c r l n add (λi=>toSh (sub i))) t))) (z7f k a b c r l n add sub t) ?_
  exact yc7 (Pd:=λx=>∃i,i<n/\x=toSh (sub i)) (λx hx=>by
   obtain⟨i,hi,rfl⟩:=hx
   exact ih i (h.2.2 i hi)) k a b c r l n add (λi=>toSh (sub i)) h.1 h.2.1 (λi hi=>⟨i,hi,rfl⟩) t
theorem yc8:∀x,PdS x->∀t,Dyn.zav Tryz.prog 18 [dvS x,dvT t] (.val (dvS (zhe x t))):=λx hx t=>by
 have k:=yd1 _ hx.1 t
 rw[show zhe (toSh (ofSh x)) t=zhe x t by unfold zhe;rw[za7]]at k
 exact zc5 (args:=dvS (toSh (ofSh x))::[dvT t]) ⟨SLe.dv hx.2,Dyn.DVLe.refl _,trivial⟩ k
theorem z6y{l:Ctr}(h:CtrB l)(t:Tn):CtrB (yk8 l t):=h
theorem zex:CtrB zeC:=⟨by decide,λi hi=>absurd hi (Nat.not_lt_zero i)⟩
theorem zx3(k:Int)(a b c:P2)(r:Int){l:Ctr}(h:CtrB l):ShB (zor k a b c r l):=⟨h,by decide,λi hi=>absurd hi (Nat.not_lt_zero i)⟩
theorem ymw{K:Int}{E1 E2 E3 E4 E5 E6:Shp}(h1:ShB E1)(h2:ShB E2)(h3:ShB E3)(h4:ShB E4)(h5:ShB E5)(h6:ShB E6):ShB (bif K==1 then E1 else bif bif K==3 then K==3 else K==4 then E2 else bif K==5 then E3 else bif K==2 then E4 else bif K==6 then E5 else E6):=by
 cases K==1
 ·cases (bif K==3 then K==3 else K==4)
  ·cases K==5
   ·cases K==2
    ·cases K==6
     ·exact h6
     ·exact h5
    ·exact h4
   ·exact h3
  ·exact h2
 ·exact h1
theorem z7g:∀s:Shp,ShB s->∀t,ShB (zga s t):=by
 intro s
 induction s with
 |nil=>intro h;exact h.elim
 |mk k a b c r l n add sub ih=>
  intro h t
  exact ymw (zx3 _ _ _ _ _ zex) (zx3 _ _ _ _ _ zex) (zx3 _ _ _ _ _ zex) (zx3 _ _ _ _ _ (z6y h.1 t)) ⟨zex,h.2.1,λi hi=>ih i (h.2.2 i hi) t⟩ (zx3 _ _ _ _ _ zex)
theorem z7i{x:Sh}(h:PdS x)(t:Tn):PdS (zhe x t):=by
 exact zl0 (z7g _ h.1 t)
def noS:Shp:=zor 0 ze ze ze 0 zeC
noncomputable def z0j(x:Sh)(t:Tn):Sh:=bif okE x then bif okE (zhe x t)then zhe x t else toSh noS else toSh noS
noncomputable def znl(x:Sh)(t:Tn):Bool:=bif okE x then okE (zhe x t)else false
noncomputable def tdAp:List Dyn.zb2:=[(17,en1D (qAnd qS PdS) λx=>rB (okE x)),(18,en2D (qAnd qS PdS) qT λx t=>.val (dvS (zhe x t)))]
def drAp(K:Nat):Bool:=Nat.beq K 18
noncomputable def tabAq:Dyn.Tabs:=Dyn.tabs tbF tdAp drAp dtyS
theorem yfw:Dyn.zal Tryz.prog tabAq:=Dyn.zb0 zcy (List.forall_mem_cons.2 ⟨zfe (zbl zgt) λx h=>zvu x h.1,List.forall_mem_cons.2 ⟨zgc (zbl zgt) ymp λx t h _=>yc8 x h.1 t,λ_ h=>by cases h⟩⟩)
def z6z:Dyn.RV:=.tup [.agg [cI 0,cI 0,cI 0,cI 0,cI 0,cI 0,cI 0,cI 0,nilR,nilR],dvB false]
noncomputable def apqO(x:Sh)(t:Tn):Dyn.RO:=
 .side [PdS x,zbz x.l] (.ite (!(okE x)) (.leaf z6z)
  (.side [PdS x,zbz x.l] (.side [PdS (zhe x t),zbz (zhe x t).l] (.ite (!(okE (zhe x t))) (.leaf z6z) (.leaf (.tup [dvS (zhe x t),dvB true]))))))
theorem apq_O(x:Sh)(t:Tn):(Dyn.dfun Tryz.prog tabAq Dyn.noLp 3 Tryz.f10 [dvS x,dvT t]).ro Tryz.prog Tryz.f10.results=apqO x t:=by kernel_rfl
theorem zero_le:Dyn.RVLe z6z (.tup [dvS (toSh noS),dvB false]):=⟨⟨rfl,rfl,rfl,rfl,rfl,rfl,rfl,rfl,zfj,⟨rfl,λi hi=>absurd hi (Nat.not_lt_zero _)⟩,trivial⟩,rfl,trivial⟩
theorem yna(x:Sh)(h:PdS x)(t:Tn):Dyn.zav Tryz.prog 10 [dvS x,dvT t] (.tup [dvS (z0j x t),dvB (znl x t)]):=
 Dyn.zbs (lp:=Dyn.noLp) (fuel:=3) yfw mo Tryz.func10 (by kernel_rfl) (c:=zbx Tryz.f10.body) (by kernel_rfl) (λw0=>Dyn.zcl _ w0) (by kernel_rfl) (apq_O x t) (by
  unfold z0j znl
  refine⟨⟨h,zau _,trivial⟩,λh1=>?_,λh1=>⟨⟨h,zau _,trivial⟩,⟨z7i h t,zau _,trivial⟩,λh2=>?_,λh2=>?_⟩⟩
  ·rw[show okE x=false by simpa using h1];exact zero_le
  ·rw[show okE x=true by simpa using h1,show okE (zhe x t)=false by simpa using h2];exact zero_le
  ·rw[show okE x=true by simpa using h1,show okE (zhe x t)=true by simpa using h2];exact⟨Dyn.DVLe.refl _,rfl,trivial⟩)
end Go.Proofs.YtmekpbopoknigaaGreatDoor
namespace Go.Proofs.YtmekpbopoknigaaGreatDoor
open Go Go.ChangeShapes Go.WideShapes Go.ChangeAt Go.RowKit Go.Joins Go.Deep
set_option maxRecDepth 100000
section
variable{H:Type}{enc:TypeId×Value->H}{P:Program}{w:World}{base:Nat}{spare:Nat->Bool}{held:Bool}
theorem yoi{fuel:Nat}{x:DataW H×List MemPlace}{t e2 e:TypeId}{f0 f1:Field}{v:Value}(ht:P.underlying t=some (.slice e2))(hc2:P.cellsOf e2=1)(ht2:P.underlying e2=some (.slice e))(he:P.underlying e=some (.struct #[f0,f1]))
  (ce:P.cellsOf e=2) (o0:f0.offset=0) (o1:f1.offset=1) (c0:P.cellsOf f0.type=1) (c1:P.cellsOf f1.type=1) (k0:P.underlying f0.type=some (.int .i64)) (k1:P.underlying f1.type=some (.int .i64))
  (hf:DataW.trod enc P w base spare held fuel t [v]=some x):∃l:Ctr,Dyn.DenC w (λb=>b<w.heap.size) (cCtr l) v:=by
 rcases open_slice1 ht hc2 hf with⟨h,_⟩|⟨a',len',cap',m,n,V,D,Pl,h,hb,hl,hcap,hm,hx,hall⟩
 ·simp only[List.cons.injEq,and_true]at h
  rw[h]
  exact⟨⟨0,λ_=>0,λ_ _=>⟨0,0⟩⟩,.nil _ none 0⟩
 ·simp only[List.cons.injEq,and_true]at h
  rw[h]
  have hlm:len'<=m:=by rw[hm];split<;>omega
  by_cases hz:len'=0
  ·subst hz
   exact⟨⟨0,λ_=>0,λ_ _=>⟨0,0⟩⟩,.nil _ (some a') cap'⟩
  ·have h0:=(hall 0 (by omega)).1
   obtain⟨hlt,hsp⟩:=zn3 h0
   have hsp:=hsp rfl
   obtain⟨b,off,sp⟩:=a'
   dsimp only at hsp
   subst hsp
   simp only[zqk]at hall hlt
   haveI:Inhabited (Nat×(Nat->P2)):=⟨0,λ_=>⟨0,0⟩⟩
   obtain⟨g,hg⟩:=choose_lt (α:=Nat×(Nat->P2)) (n:=len') (p:=λi q=>Dyn.DenC w (λb=>b<w.heap.size) (cRow q.1 q.2) (V i)) (λi hi=>by
    obtain⟨q,p,hq⟩:=row_P ht2 he ce o0 o1 c0 c1 k0 k1 (hall i (by omega)).2
    exact⟨(q,p),hq⟩)
   refine⟨⟨len',λi=>(g i).1,λi=>(g i).2⟩,.row len' _ b off cap' 1 (λi _=>V i) hl hlt (λi hi=>⟨rfl,λj hj=>?_⟩) (λi j hi hj=>?_)⟩
   ·obtain rfl:j=0:=by omega
    rw[Nat.mul_one,Nat.add_zero];exact(hall i (by omega)).1
   ·obtain rfl:j=0:=by omega
    exact hg i hi
theorem z2r{F:Nat->Prop}{fuel:Nat}{x:DataW H×List MemPlace}{t:TypeId}{f0 f1:Field}{u v:Value}(ht:P.underlying t=some (.struct #[f0,f1]))(o0:f0.offset=0)(o1:f1.offset=1)(c0:P.cellsOf f0.type=1)(c1:P.cellsOf f1.type=1)(k0:P.underlying f0.type=some (.int .i64))(k1:P.underlying f1.type=some (.int .i64))
  (hf:DataW.trod enc P w base spare held fuel t [u,v]=some x):∃p:P2,u=vi p.x/\v=vi p.y/\Dyn.DenC w F (cI p.x) u/\Dyn.DenC w F (cI p.y) v:=by
 obtain⟨y0,y1,n,_,_,h0,h1⟩:=trod_struct2 ht hf
 rw[o0,c0]at h0
 rw[o1,c1]at h1
 obtain⟨x0,e0,_⟩:=DataW.trod_int k0 h0
 obtain⟨x1,e1,_⟩:=DataW.trod_int k1 h1
 simp only[List.drop_zero,List.take_succ_cons,List.take_zero,List.cons.injEq,and_true,List.drop_succ_cons]at e0 e1
 subst e0;subst e1
 exact⟨⟨x0,x1⟩,rfl,rfl,.p _ rfl,.p _ rfl⟩
theorem zwg{F:Nat->Prop}:∀{ds:List Dyn.DC} {us:List Value} {j:Nat},Dyn.DenL w F ds us->j<us.length->Dyn.DenC w F (ds.getD j default) (us.getD j default)
 |[],[],_,_,h=>absurd h (Nat.not_lt_zero _)
 |d::ds,u::us,0,h,_=>h.1
 |d::ds,u::us,j+1,h,hj=>zwg (ds:=ds) (us:=us) (j:=j) h.2 (Nat.lt_of_succ_lt_succ hj)
structure ShT(P:Program)(tS tK tP tR tL tL1 tQ tE tB tI:TypeId):Prop where
 s:∃f0 f1 f2 f3 f4 f5 f6:Field,P.underlying tS=some (.struct #[f0,f1,f2,f3,f4,f5,f6])/\(f0.type=tK/\f1.type=tP/\f2.type=tP/\f3.type=tP/\f4.type=tR/\f5.type=tL/\f6.type=tQ)/\f0.offset=0/\f1.offset=1/\f2.offset=3/\f3.offset=5/\f4.offset=7/\f5.offset=8/\f6.offset=9
 sc:P.cellsOf tS=10
 kc:P.cellsOf tK=1
 pc:P.cellsOf tP=2
 rc:P.cellsOf tR=1
 lc:P.cellsOf tL=1
 qc:P.cellsOf tQ=1
 k:P.underlying tK=some (.int .i64)
 r:P.underlying tR=some (.int .i64)
 p:∃g0 g1:Field,P.underlying tP=some (.struct #[g0,g1])/\g0.offset=0/\g1.offset=1/\g0.type=tI/\g1.type=tI
 ic:P.cellsOf tI=1
 i:P.underlying tI=some (.int .i64)
 l:P.underlying tL=some (.slice tL1)
 l1c:P.cellsOf tL1=1
 l1:P.underlying tL1=some (.slice tP)
 q:P.underlying tQ=some (.slice tE)
 ec:P.cellsOf tE=11
 e:∃h0 h1:Field,P.underlying tE=some (.struct #[h0,h1])/\h0.offset=0/\h1.offset=1/\h0.type=tB/\h1.type=tS
 bc:P.cellsOf tB=1
 b:P.underlying tB=some .bool
theorem z9g{tS tK tP tR tL tL1 tQ tE tB tI:TypeId}(T:ShT P tS tK tP tR tL tL1 tQ tE tB tI):∀(fuel:Nat) (cs:List Value) (x:DataW H×List MemPlace),DataW.trod enc P w base spare held fuel tS cs=some x->
  ∃s:Shp,ShW s/\Dyn.DenL w (λb=>b<w.heap.size) (cS (toSh s)) cs:=by
 intro fuel
 induction fuel using Nat.strongRecOn with
 |_ fuel ih=>
  intro cs x hx
  obtain⟨f0,f1,f2,f3,f4,f5,f6,hs,⟨t0,t1,t2,t3,t4,t5,t6⟩,o0,o1,o2,o3,o4,o5,o6⟩:=T.s
  obtain⟨g0,g1,hp,p0,p1,q0,q1⟩:=T.p
  obtain⟨h0,h1,he,a0,a1,b0,b1⟩:=T.e
  obtain⟨xs,n,rfl,_,hl,hlen,hf⟩:=DataW.trod_struct hs hx
  rw[T.sc]at hl
  obtain⟨v0,v1,v2,v3,v4,v5,v6,v7,v8,v9,rfl⟩:∃v0 v1 v2 v3 v4 v5 v6 v7 v8 v9:Value,cs=[v0,v1,v2,v3,v4,v5,v6,v7,v8,v9]:=by
   match cs,hl with
   |[v0,v1,v2,v3,v4,v5,v6,v7,v8,v9],_=>exact⟨v0,v1,v2,v3,v4,v5,v6,v7,v8,v9,rfl⟩
  have hxl:xs.length=7:=hlen
  have get:∀i,i<7->∃y,xs[i]? = some y:=λi hi=>⟨xs[i],List.getElem?_eq_getElem (by omega)⟩
  obtain⟨y0,e0⟩:=get 0 (by decide)
  obtain⟨y1,e1⟩:=get 1 (by decide)
  obtain⟨y2,e2⟩:=get 2 (by decide)
  obtain⟨y3,e3⟩:=get 3 (by decide)
  obtain⟨y4,e4⟩:=get 4 (by decide)
  obtain⟨y5,e5⟩:=get 5 (by decide)
  obtain⟨y6,e6⟩:=get 6 (by decide)
  have k0:=hf 0 f0 rfl
  have k1:=hf 1 f1 rfl
  have k2:=hf 2 f2 rfl
  have k3:=hf 3 f3 rfl
  have k4:=hf 4 f4 rfl
  have k5:=hf 5 f5 rfl
  have k6:=hf 6 f6 rfl
  rw[e0,t0,o0,T.kc]at k0
  rw[e1,t1,o1,T.pc]at k1
  rw[e2,t2,o2,T.pc]at k2
  rw[e3,t3,o3,T.pc]at k3
  rw[e4,t4,o4,T.rc]at k4
  rw[e5,t5,o5,T.lc]at k5
  rw[e6,t6,o6,T.qc]at k6
  simp only[List.drop_zero,List.take_succ_cons,List.take_zero,List.drop_succ_cons]at k0 k1 k2 k3 k4 k5 k6
  obtain⟨z0,r0,_⟩:=DataW.trod_int T.k k0
  obtain⟨z4,r4,_⟩:=DataW.trod_int T.r k4
  simp only[List.cons.injEq,and_true]at r0 r4
  subst r0;subst r4
  obtain⟨pa,_,_,a1',a2'⟩:=z2r (F:=λb=>b<w.heap.size) hp p0 p1 (by rw[q0];exact T.ic) (by rw[q1];exact T.ic) (by rw[q0];exact T.i) (by rw[q1];exact T.i) k1
  obtain⟨pb,_,_,b1',b2'⟩:=z2r (F:=λb=>b<w.heap.size) hp p0 p1 (by rw[q0];exact T.ic) (by rw[q1];exact T.ic) (by rw[q0];exact T.i) (by rw[q1];exact T.i) k2
  obtain⟨pc,_,_,c1',c2'⟩:=z2r (F:=λb=>b<w.heap.size) hp p0 p1 (by rw[q0];exact T.ic) (by rw[q1];exact T.ic) (by rw[q0];exact T.i) (by rw[q1];exact T.i) k3
  obtain⟨l,hL⟩:=yoi T.l T.l1c T.l1 hp T.pc p0 p1 (by rw[q0];exact T.ic) (by rw[q1];exact T.ic) (by rw[q0];exact T.i) (by rw[q1];exact T.i) k5
  have parts:∃(m:Nat) (add:Nat->Bool) (sub:Nat->Shp),(∀i,i<m->ShW (sub i))/\Dyn.DenC w (λb=>b<w.heap.size) (.row m λi=>zbv (add i) (toSh (sub i))) v9:=by
   rcases DataW.trod_slice T.q k6 with⟨hv,_⟩|⟨a,len,cap,elems,rest,m,rfl,hv,_,hb,hle,_,hel,hall,_⟩
   ·simp only[List.cons.injEq,and_true]at hv
    subst hv
    exact⟨0,λ_=>false,λ_=>.nil,λi hi=>absurd hi (Nat.not_lt_zero i),.nil _ none 0⟩
   ·simp only[List.cons.injEq,and_true]at hv
    subst hv
    have part:∀i,i<len->∃q:(Bool×Shp)×(Nat->Value),ShW q.1.2/\(∀j,j<11->w.cell? ((a.add (i*11)).add j)=some (q.2 j))/\(∀j,j<11->Dyn.DenC w (λb=>b<w.heap.size) ((zbv q.1.1 (toSh q.1.2)).getD j default) (q.2 j)):=λi hi=>by
     have key:=hall i hi
     rw[T.ec,List.getElem?_eq_getElem (by omega)]at key
     obtain⟨cs',h1',h2'⟩:=Option.bind_eq_some_iff.1 key
     obtain⟨_,hlen',hcell⟩:=World.cells?_some h1'
     obtain⟨ys,n',rfl,_,_,hyl,hfy⟩:=DataW.trod_struct he h2'
     have hyl:ys.length=2:=hyl
     have m0:=hfy 0 h0 rfl
     have m1:=hfy 1 h1 rfl
     rw[List.getElem?_eq_getElem (by omega),b0,a0,T.bc]at m0
     rw[List.getElem?_eq_getElem (by omega),b1,a1,T.sc]at m1
     obtain⟨c,cs'',rfl⟩:∃c cs'',cs'=c::cs'':=by
      match cs',hlen' with
      |c::cs'',_=>exact⟨c,cs'',rfl⟩
     simp only[List.drop_zero,List.take_succ_cons,List.take_zero,List.drop_succ_cons]at m0 m1
     rw[List.take_of_length_le (by simp only[List.length_cons]at hlen';omega)]at m1
     obtain⟨q,hq,_⟩:=DataW.trod_bool T.b m0
     simp only[List.cons.injEq,and_true]at hq
     subst hq
     obtain⟨s',hW',hD'⟩:=ih n' (by omega) _ _ m1
     refine⟨((q,s'),λj=>((.bool q:Value)::cs'').getD j default),hW',λj hj=>?_,λj hj=>?_⟩
     ·rw[hcell j hj]
      show _=some ((Value.bool q::cs'').getD j default)
      rw[List.getD_eq_getElem?_getD,List.getElem?_eq_getElem (by omega)];rfl
     ·exact zwg (ds:=zbv q (toSh s')) (us:=.bool q::cs'') ⟨.p _ rfl,hD'⟩ (by omega)
    by_cases hz:len=0
    ·subst hz
     exact⟨0,λ_=>false,λ_=>.nil,λi hi=>absurd hi (Nat.not_lt_zero i),.nil _ (some a) cap⟩
    ·haveI:Inhabited ((Bool×Shp)×(Nat->Value)):=⟨((false,.nil),λ_=>default)⟩
     obtain⟨g,hg⟩:=choose_lt part
     have z0:=(hg 0 (by omega)).2.1 0 (by decide)
     have za:(a.add (0*11)).add 0=a.add 0:=rfl
     rw[za]at z0
     obtain⟨hlt,hsp⟩:=zn3 z0
     have hsp:=hsp rfl
     obtain⟨b,off,sp⟩:=a
     dsimp only at hsp
     subst hsp
     simp only[zqk]at hg hlt
     exact⟨len,λi=>(g i).1.1,λi=>(g i).1.2,λi hi=>(hg i hi).1,.row len _ b off cap 11 (λi j=>(g i).2 j) hle hlt (λi hi=>⟨rfl,λj hj=>(hg i hi).2.1 j hj⟩) (λi j hi hj=>(hg i hi).2.2 j hj)⟩
  obtain⟨m,add,sub,hW,hQ⟩:=parts
  exact⟨.mk z0 pa pb pc z4 l m add sub,hW,.p _ rfl,a1',a2',b1',b2',c1',c2',.p _ rfl,hL,hQ,trivial⟩
theorem open_T{tT:TypeId}{f0 f1 f2 f3 g0 g1:Field}(hs:P.underlying tT=some (.struct #[f0,f1,f2,f3]))(hC:P.cellsOf tT=5)(ho:f0.offset=0/\f1.offset=1/\f2.offset=2/\f3.offset=3)(hc:P.cellsOf f0.type=1/\P.cellsOf f1.type=1/\P.cellsOf f2.type=1/\P.cellsOf f3.type=2)
  (u0:P.underlying f0.type=some .bool) (u1:P.underlying f1.type=some .bool) (u2:P.underlying f2.type=some (.int .i64)) (hp:P.underlying f3.type=some (.struct #[g0,g1])) (p0:g0.offset=0) (p1:g1.offset=1) (c0:P.cellsOf g0.type=1) (c1:P.cellsOf g1.type=1)
  (k0:P.underlying g0.type=some (.int .i64)) (k1:P.underlying g1.type=some (.int .i64)) {r:Reach} {b0:Nat} {v:Value} {d:DataW H} {ps:List MemPlace} (hval:Value.okWide P w r b0 tT v) (hd:DataW.Trod enc P w base spare held tT v d ps):∃t:Tn,v=tn t:=by
 obtain⟨cs,rfl,hsz⟩:=okWide_struct hs hval
 obtain⟨fuel,hf⟩:=hd
 obtain⟨y0,y1,y2,y3,n,_,_,h0,h1,h2,h3⟩:=trod_struct4 hs hf
 rw[hC]at hsz
 obtain⟨l⟩:=cs
 obtain⟨v0,v1,v2,v3,v4,rfl⟩:∃v0 v1 v2 v3 v4:Value,l=[v0,v1,v2,v3,v4]:=by
  match l,hsz with
  |[v0,v1,v2,v3,v4],_=>exact⟨v0,v1,v2,v3,v4,rfl⟩
 simp only[Value.cells]at h0 h1 h2 h3
 rw[ho.1,hc.1]at h0
 rw[ho.2.1,hc.2.1]at h1
 rw[ho.2.2.1,hc.2.2.1]at h2
 rw[ho.2.2.2,hc.2.2.2]at h3
 simp only[List.drop_zero,List.take_succ_cons,List.take_zero,List.drop_succ_cons]at h0 h1 h2 h3
 obtain⟨q0,e0,_⟩:=DataW.trod_bool u0 h0
 obtain⟨q1,e1,_⟩:=DataW.trod_bool u1 h1
 obtain⟨q2,e2,_⟩:=DataW.trod_int u2 h2
 obtain⟨p,r1,r2,_,_⟩:=z2r (F:=λ_=>True) hp p0 p1 c0 c1 k0 k1 h3
 simp only[List.cons.injEq,and_true]at e0 e1 e2
 subst e0;subst e1;subst e2;subst r1;subst r2
 exact⟨⟨q0,q1,q2,p⟩,rfl⟩
end
theorem den_T(t:Tn)(w:World)(F:Nat->Prop):Dyn.DenV w F (dvT t) (tn t):=⟨_,rfl,.p _ rfl,.p _ rfl,.p _ rfl,.p _ rfl,.p _ rfl,trivial⟩
theorem shT:ShT Tryz.prog 37 3 26 2 34 77 35 79 4 2 where
 s:=⟨_,_,_,_,_,_,_,Tryz.underlying37,⟨rfl,rfl,rfl,rfl,rfl,rfl,rfl⟩,rfl,rfl,rfl,rfl,rfl,rfl,rfl⟩
 sc:=by kernel_rfl
 kc:=by kernel_rfl
 pc:=by kernel_rfl
 rc:=by kernel_rfl
 lc:=by kernel_rfl
 qc:=by kernel_rfl
 k:=Tryz.underlying3
 r:=Tryz.underlying2
 p:=⟨_,_,Tryz.underlying26,rfl,rfl,rfl,rfl⟩
 ic:=by kernel_rfl
 i:=Tryz.underlying2
 l:=Tryz.underlying34
 l1c:=by kernel_rfl
 l1:=Tryz.underlying77
 q:=Tryz.underlying35
 ec:=by kernel_rfl
 e:=⟨_,_,Tryz.underlying79,rfl,rfl,rfl,rfl⟩
 bc:=by kernel_rfl
 b:=Tryz.underlying4
end Go.Proofs.YtmekpbopoknigaaGreatDoor

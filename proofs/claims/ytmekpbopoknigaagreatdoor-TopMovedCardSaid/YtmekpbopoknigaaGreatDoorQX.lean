import Derived.Test.YtmekpbopoknigaaGreatDoorQW
import Derived.Test.YtmekpbopoknigaaGreatDoorQR
namespace Go.Proofs.YtmekpbopoknigaaGreatDoor
open Go Go.RowKit Sym
set_option maxRecDepth 1000000
def z3z:Value->Value->Bool
 |.slice none a b,.slice none c d=>bif Nat.beq a c then Nat.beq b d else false
 |x,y=>yhr x y
theorem yb4{x y:Value}(h:z3z x y=true):x=y:=by
 unfold z3z at h
 split at h
 ·rename_i a b c d
  cases e:Nat.beq a c with
  |false=>rw[e]at h;cases h
  |true=>
   rw[e]at h
   rw[Nat.eq_of_beq_eq_true e,Nat.eq_of_beq_eq_true h]
 ·exact zvw h
def zsb:List Value->List Value->Bool
 |[],[]=>true
 |x::l,y::m=>bif z3z x y then zsb l m else false
 |_,_=>false
theorem zub:∀{l m:List Value},zsb l m=true->l=m
 |[],[],_=>rfl
 |[],_::_,h=>by cases h
 |_::_,[],h=>by cases h
 |x::l,y::m,h=>by
  unfold zsb at h
  cases e:z3z x y with
  |false=>rw[e]at h;cases h
  |true=>rw[e]at h;rw[yb4 e,zub h]
def eqLA:Dyn.LA->Dyn.LA->Bool
 |.d x,.d y=>eqDV x y
 |.lp i o,.lp j p=>bif Nat.beq i j then Nat.beq o p else false
 |_,_=>false
def yb3:List Dyn.LA->List Dyn.LA->Bool
 |[],[]=>true
 |x::l,y::m=>bif eqLA x y then yb3 l m else false
 |_,_=>false
theorem zyh{w:World}{F:Nat->Prop}{bs:List Nat}:∀{l m:List Dyn.LA},yb3 l m=true->∀{us:List Value},Dyn.zj0 w F bs l us->Dyn.zj0 w F bs m us
 |[],[],_,_,k=>k
 |[],_::_,h,_,_=>by cases h
 |_::_,[],h,_,_=>by cases h
 |x::l,y::m,h,us,k=>by
  unfold yb3 at h
  cases e:eqLA x y with
  |false=>rw[e]at h;cases h
  |true=>
   rw[e]at h
   cases us with
   |nil=>exact k.elim
   |cons u us=>
    refine⟨?_,zyh h k.2⟩
    unfold eqLA at e
    split at e
    ·exact DVd.den (z0z e) k.1
    ·rename_i i o j p
     cases e1:Nat.beq i j with
     |false=>rw[e1]at e;cases e
     |true=>
      rw[e1]at e
      have h1:=Nat.eq_of_beq_eq_true e1
      have h2:=Nat.eq_of_beq_eq_true e
      subst h1;subst h2
      exact k.1
    ·cases e
theorem z0s{P:Program}{K:Nat}{l:List Dyn.LA}{t:TypeId}{cs:List Value}{r r':Dyn.RV}(hr:∀{w:World} {F:Nat->Prop} {u:Value},Dyn.DenR w F r u->Dyn.DenR w F r' u)(h:Dyn.zlp P K l t cs r):Dyn.zlp P K l t cs r':=λw F b us hF hn hb hd=>by
 have k:=h w F b us hF hn hb hd
 split at k
 ·obtain⟨rfl,k⟩:=k
  refine⟨rfl,k.mono ?_⟩
  rintro e w2 ⟨u,rfl,h1,h2⟩
  exact⟨u,rfl,hr h1,h2⟩
 ·exact k.elim
theorem z08{P:Program}{X:Dyn.Tabs}(ht:Dyn.zal P X)(hm:P.follows .mixedOrders=true){K:Nat}{fn:Func}(hf:P.funcs[K]? = some fn)(hn:(fn.name=="runtime.NumGoroutine")=false){c:Code}(hb:fn.body=some c){fuel:Nat}{t:TypeId}{cs:List Value}{az:List Dyn.LA}{r:Dyn.RV}
  (hp:Dyn.pOks (Dyn.zlo az)=true) (hla:Dyn.laOk 1 az=true) (hlf:Dyn.zlc [(t,cs)]=true) (h:roEq ((Dyn.zsd P X Dyn.noLp fuel fn [(t,cs)] az).ro P fn.results) r=true):Dyn.zlp P K az t cs r:=by
 cases e:(Dyn.zsd P X Dyn.noLp fuel fn [(t,cs)] az).ro P fn.results with
 |leaf r0=>
  rw[e]at h
  exact z0s (λhd=>zvx h hd) (Dyn.zyd (fuel:=fuel) ht hm hf hn hb (λw0=>Dyn.zcl _ w0) hp hla hlf e (Dyn.RVLe.refl r0))
 |ite b x y=>rw[e]at h;cases h
 |side ps x=>rw[e]at h;cases h
 |fail=>rw[e]at h;cases h
def enGs(az:List Dyn.LA)(t0:TypeId)(cs0:List Value)(r:Dyn.RV):List Dyn.LA->TypeId->List Value->Option (Dyn.RV×List Prop):=λbz t cs=>bif yb3 bz az then bif Nat.beq t t0 then bif zsb cs cs0 then some (r,[])else none else none else none
theorem z01{P:Program}{K:Nat}{az:List Dyn.LA}{t0:TypeId}{cs0:List Value}{r:Dyn.RV}(h:Dyn.zlp P K az t0 cs0 r):Dyn.zlk P (K,enGs az t0 cs0 r):=λbz t cs r' ps hr hp=>by
 dsimp only[enGs]at hr
 cases e:yb3 bz az with
 |false=>rw[e]at hr;cases hr
 |true=>
  cases e1:Nat.beq t t0 with
  |false=>rw[e,e1]at hr;cases hr
  |true=>
   cases e2:zsb cs cs0 with
   |false=>rw[e,e1,e2]at hr;cases hr
   |true=>
    rw[e,e1,e2]at hr
    cases hr
    have h1:=Nat.eq_of_beq_eq_true e1
    have h2:=zub e2
    subst h1;subst h2
    intro w F b us hF hn hb hd
    exact h w F b us hF hn hb (zyh e hd)
def vT:Vw:=⟨-10000000,-10000000,10000000,2,2,0⟩
theorem vT_G:VwG vT:=⟨.inl rfl,by decide,by decide,λh=>(by cases h),by decide,by decide,by decide,by decide,by decide,by decide,by decide,by decide⟩
def lT:Shp:=zeq 1 (λ_=>true) (λ_=>shP)
theorem z2e:Fine (PB 20000000) shP 0:=.inr (.inr (.inr (.inr (.inl ⟨rfl,rfl,rfl,rfl,rfl,rfl,by decide,λi hi=>⟨by show(4:Nat)<=12;decide,λk hk=>by
 have hk:k<4:=hk
 show PB 20000000 (ptsT 0 k)
 rcases(show k=0\/k=1\/k=2\/k=3 by omega)with rfl|rfl|rfl|rfl<;>exact⟨⟨by decide,by decide⟩,by decide,by decide⟩⟩⟩))))
theorem okP:okS shP=true:=by kernel_rfl
theorem ynl:GoodN lT:=by
 refine⟨λi _ h=>?_,λi _ hh b hb ha q hs hq=>?_⟩
 ·have h:(zdf shP).2=false:=h
  rw[show(zdf shP).2=true by kernel_rfl]at h;cases h
 ·have ha:zo3 (zdf shP).1 b=true:=ha
  have eB:zdf shP=bndF shP:=by unfold zdf;rw[okP];rfl
  show zbf shP q=0
  rw[eB]at ha
  unfold zbf
  rw[okP]
  exact z3s (by decide) hq shP 0 z2e rfl λh2=>Off.box hs (zy9 ((z3v (by decide) shP 0 z2e).2 h2) hb ha)
def fT:Nat->List Dyn.DC:=λ_=>zbv true (toSh shP)
def rowQ:Dyn.DC:=.row 1 fT
theorem yby:PxD 1 fT/\GoodN (lstD 1 fT)/\∀b,zb6 (lstD 1 fT) b=zb6 lT b:=by
 have cn:cntS shP=0:=rfl
 have k:=z0m (n:=1) (f:=fT) (add:=λ_=>true) (sub:=λ_=>shP) (by decide) (λi _=>⟨shP_B,by omega⟩) λi hi=>.inl rfl
 exact⟨k.1,k.2.2 ynl,k.2.1⟩
def rObQ:Dyn.RV:=.tup [.one rowQ,dvI 0,dvI 0]
theorem yan:Dyn.zlp Tryz.prog 44 [.lp 0 0] 165 (csLz (.slice none 0 0) 0 0) rObQ:=
 z0s (λhd=>Dyn.zjq (show Dyn.RVLe (.tup [.one rowO,dvI 0,dvI 0]) rObQ from⟨⟨rfl,λi hi=>by
  obtain rfl:i=0:=by omega
  show zbv true (cpE (toSh shP))=zbv true (toSh shP)
  unfold cpE
  rw[za7]⟩,Dyn.DVLe.refl _,Dyn.DVLe.refl _,trivial⟩) hd) zxr
def rRnT:Dyn.RV:=.tup [.one (.row 4 λ_=>[cI 1,cI 1]),dvI 0]
theorem lT_cls:∀i,i<4->zb6 lT (pxI vT i)=2:=λi hi=>by
 rcases(show i=0\/i=1\/i=2\/i=3 by omega)with rfl|rfl|rfl|rfl<;>kernel_rfl
theorem ygf:Dyn.zlp Tryz.prog 21 [.d (.one rowQ),.d (dvV vT),.lp 0 0] 107 [vi 100,vi 0] rRnT:=by
 have k:=yb6 [.d (.one (.row 1 fT)),.d (dvV vT),.lp 0 0] 107 [vi 100,vi 0] (.tup [.one (.row (pxN vT) (cvR (lstD 1 fT) vT)),dvI 0]) _ rfl ⟨yby.1,yby.2.1,vT_G,⟨rfl,by decide,by decide⟩,trivial⟩
 have le:Dyn.RVLe (.tup [.one (.row (pxN vT) (cvR (lstD 1 fT) vT)),dvI 0]) rRnT:=⟨⟨rfl,λi hi=>by
  have hi:i<4:=hi
  show[cI (cvI (lstD 1 fT) vT i).1,cI (cvI (lstD 1 fT) vT i).2]=[cI 1,cI 1]
  have e:cvI (lstD 1 fT) vT i=(1,1):=by
   show(bif zb6 (lstD 1 fT) (pxI vT i)==0 then(0,0)else bif zb6 (lstD 1 fT) (pxI vT i)==2 then(zci 0,zci 0)else(0,1))=(1,1)
   rw[yby.2.2,lT_cls i hi];rfl
  rw[e]⟩,Dyn.DVLe.refl _,trivial⟩
 exact z0s (λhd=>Dyn.zjq le hd) k
noncomputable def z88:Dyn.Tabs:={tab0 with cl:=true,dty:=λ_=>true}
theorem z2c:Dyn.zal Tryz.prog z88:=by
 constructor
 case tb=>intro K args v ps h;simp[tab0,z88]at h
 all_goals (intros;simp_all [tab0,z88])
def yar:Dyn.DC:=.row 0 λ_=>[]
def layT:Nat->List Dyn.DC:=λ_=>[.p (.string zi1.toUTF8),cI 9,cI 0,cI 0,cI 255,cB false]
def zyk:Dyn.DV:=.agg (cV vT++[.row 1 layT,yar,cI 0,cI 0,cI 0,cI 10,cI 100])
def rCvT:Dyn.RV:=.tup [.one (.row 4 λ_=>[cI 1,cI 1]),.agg [cI 0,cI 0,cI 0,cI 0]]
noncomputable def gvCr:List Dyn.zsp:=[(44,enGs [.lp 0 0] 165 (csLz (.slice none 0 0) 0 0) rObQ),(21,enGs [.d (.one rowQ),.d (dvV vT),.lp 0 0] 107 [vi 100,vi 0] rRnT)]
theorem ynv:∀e∈gvCr,Dyn.zlk Tryz.prog e:=List.forall_mem_cons.2 ⟨z01 yan,List.forall_mem_cons.2 ⟨z01 ygf,λ_ h=>by cases h⟩⟩
noncomputable def z2b:Dyn.Tabs:={tab0 with cl:=true,dres:=λn=>memN n [44,21],dty:=λ_=>true,gv:=Dyn.gvOf gvCr}
theorem z81:Dyn.zal Tryz.prog z2b:=by
 constructor
 case gv=>exact Dyn.zvn ynv
 case tb=>intro K args v ps h;simp[tab0,z2b]at h
 all_goals (intros;simp_all [tab0,z2b])
noncomputable def tabCr:Dyn.Tabs:=Dyn.inlT Tryz.prog z2b (fnsR 43 43 []) (λ_=>Dyn.noLp) 12 8 8
theorem yft:Dyn.zal Tryz.prog tabCr:=Dyn.zjf z81 mo (zou (by kernel_rfl)) 8
theorem yon:Dyn.zlp Tryz.prog 26 [.d zyk,.d (dvI 0),.d (.one yar),.lp 0 0] 107 [vi 100,vi 0] rCvT:=
 z08 (fuel:=12) yft mo Tryz.func26 (by kernel_rfl) (c:=zbx Tryz.f26.body) (by kernel_rfl) (by kernel_rfl) (by kernel_rfl) (by kernel_rfl) (by kernel_rfl)
def zj2(x:Int):Dyn.DV:=.agg [cI x,cI x]
noncomputable def tabMx:Dyn.Tabs:=Dyn.inlT Tryz.prog z88 (fnsR 46 47 []) (λ_=>Dyn.noLp) 12 8 8
theorem z13:Dyn.zal Tryz.prog tabMx:=Dyn.zjf z2c mo (zou (by kernel_rfl)) 8
theorem over_9:Dyn.zav Tryz.prog 27 [zj2 0,dvI 9,dvI 255,zj2 1,dvI 1] (.tup [zj2 589824,dvB true]):=za1 (fuel:=12) z13 mo Tryz.func27 (by kernel_rfl) rfl (by kernel_rfl) (by kernel_rfl)
theorem over_0:Dyn.zav Tryz.prog 27 [zj2 0,dvI 0,dvI 255,zj2 1,dvI 1] (.tup [zj2 0,dvB true]):=za1 (fuel:=12) z13 mo Tryz.func27 (by kernel_rfl) rfl (by kernel_rfl) (by kernel_rfl)
noncomputable def tabVd:Dyn.Tabs:=Dyn.inlT Tryz.prog z88 (fnsR 22 68 []) (λ_=>Dyn.noLp) 12 16 8
theorem zk1:Dyn.zal Tryz.prog tabVd:=Dyn.zjf z2c mo (zou (by kernel_rfl)) 8
theorem yk6:Dyn.zav Tryz.prog 22 [zyk] (rB true):=za1 (fuel:=12) zk1 mo Tryz.func22 (by kernel_rfl) rfl (by kernel_rfl) (by kernel_rfl)
theorem yox:Dyn.zav Tryz.prog 25 [dvV vT] (rI 1):=za1 (fuel:=12) zk1 mo Tryz.func25 (by kernel_rfl) rfl (by kernel_rfl) (by kernel_rfl)
theorem yca:Dyn.zav Tryz.prog 23 [zyk] (.tup [.one yar,.agg [cI 0,cI 0,cI 0,cI 0]]):=za1 (fuel:=12) zk1 mo Tryz.func23 (by kernel_rfl) rfl (by kernel_rfl) (by kernel_rfl)
theorem yma:Dyn.zav Tryz.prog 24 [dvI 0] (.val (zj2 0)):=za1 (fuel:=12) zk1 mo Tryz.func24 (by kernel_rfl) rfl (by kernel_rfl) (by kernel_rfl)
def cU(x:Int):Dyn.DC:=.p (.int .u8 x)
theorem byte_9:Dyn.zav Tryz.prog 28 [zj2 589824] (.val (.one (cU 9))):=za1 (fuel:=12) zk1 mo Tryz.func28 (by kernel_rfl) rfl (by kernel_rfl) (by kernel_rfl)
theorem byte_0:Dyn.zav Tryz.prog 28 [zj2 0] (.val (.one (cU 0))):=za1 (fuel:=12) zk1 mo Tryz.func28 (by kernel_rfl) rfl (by kernel_rfl) (by kernel_rfl)
noncomputable def tdBr:List Dyn.zb2:=[(27,enCs [([zj2 0,dvI 9,dvI 255,zj2 1,dvI 1],.tup [zj2 589824,dvB true]),([zj2 0,dvI 0,dvI 255,zj2 1,dvI 1],.tup [zj2 0,dvB true])]),
 (22,enCs [([zyk],rB true)]),(25,enCs [([dvV vT],rI 1)]),(23,enCs [([zyk],.tup [.one yar,.agg [cI 0,cI 0,cI 0,cI 0]])]),(24,enCs [([dvI 0],.val (zj2 0))]),
 (28,enCs [([zj2 589824],.val (.one (cU 9))),([zj2 0],.val (.one (cU 0)))])]
theorem ylp:∀e∈tdBr,Dyn.zbu Tryz.prog e:=List.forall_mem_cons.2 ⟨zdm (List.forall_mem_cons.2 ⟨over_9,List.forall_mem_cons.2 ⟨over_0,λ_ h=>by cases h⟩⟩),List.forall_mem_cons.2 ⟨zdm (List.forall_mem_cons.2 ⟨yk6,λ_ h=>by cases h⟩),
 List.forall_mem_cons.2 ⟨zdm (List.forall_mem_cons.2 ⟨yox,λ_ h=>by cases h⟩),List.forall_mem_cons.2 ⟨zdm (List.forall_mem_cons.2 ⟨yca,λ_ h=>by cases h⟩),List.forall_mem_cons.2 ⟨zdm (List.forall_mem_cons.2 ⟨yma,λ_ h=>by cases h⟩),
 List.forall_mem_cons.2 ⟨zdm (List.forall_mem_cons.2 ⟨byte_9,List.forall_mem_cons.2 ⟨byte_0,λ_ h=>by cases h⟩⟩),λ_ h=>by cases h⟩⟩⟩⟩⟩⟩
noncomputable def gvBr:List Dyn.zsp:=[(26,enGs [.d zyk,.d (dvI 0),.d (.one yar),.lp 0 0] 107 [vi 100,vi 0] rCvT)]
theorem ynw:∀e∈gvBr,Dyn.zlk Tryz.prog e:=List.forall_mem_cons.2 ⟨z01 yon,λ_ h=>by cases h⟩
noncomputable def z83:Dyn.Tabs:={tab0 with cl:=true,dres:=λn=>memN n [26,20,23],dty:=λ_=>true,td:=Dyn.tdOf tdBr,gv:=Dyn.gvOf gvBr,nw:=nwM}
theorem z82:Dyn.zal Tryz.prog z83:=by
 constructor
 case gv=>exact Dyn.zvn ynw
 case td=>exact Dyn.zhw ylp
 case nw=>exact ykb
 case tb=>intro K args v ps h;simp[tab0,z83]at h
 all_goals (intros;simp_all [tab0,z83])
end Go.Proofs.YtmekpbopoknigaaGreatDoor

import Derived.Test.YtmekpbopoknigaaGreatDoorQW
import Derived.Test.YtmekpbopoknigaaGreatDoorQR
namespace Go.Proofs.YtmekpbopoknigaaGreatDoor
open Go Go.RowKit Sym
set_option maxRecDepth 1000000
def eqCell:Value->Value->Bool
 |.slice none a b,.slice none c d=>bif Nat.beq a c then Nat.beq b d else false
 |x,y=>eqVal x y
theorem eqCell_ok{x y:Value}(h:eqCell x y=true):x=y:=by
 unfold eqCell at h
 split at h
 ·rename_i a b c d
  cases e:Nat.beq a c with
  |false=>rw[e]at h;cases h
  |true=>
   rw[e]at h
   rw[Nat.eq_of_beq_eq_true e,Nat.eq_of_beq_eq_true h]
 ·exact eqVal_ok h
def eqCells:List Value->List Value->Bool
 |[],[]=>true
 |x::l,y::m=>bif eqCell x y then eqCells l m else false
 |_,_=>false
theorem eqCells_ok:∀{l m:List Value},eqCells l m=true->l=m
 |[],[],_=>rfl
 |[],_::_,h=>by cases h
 |_::_,[],h=>by cases h
 |x::l,y::m,h=>by
  unfold eqCells at h
  cases e:eqCell x y with
  |false=>rw[e]at h;cases h
  |true=>rw[e]at h;rw[eqCell_ok e,eqCells_ok h]
def eqLA:Dyn.LA->Dyn.LA->Bool
 |.d x,.d y=>eqDV x y
 |.lp i o,.lp j p=>bif Nat.beq i j then Nat.beq o p else false
 |_,_=>false
def eqLAs:List Dyn.LA->List Dyn.LA->Bool
 |[],[]=>true
 |x::l,y::m=>bif eqLA x y then eqLAs l m else false
 |_,_=>false
theorem eqLAs_den{w:World}{F:Nat->Prop}{bs:List Nat}:∀{l m:List Dyn.LA},eqLAs l m=true->∀{us:List Value},Dyn.DenLAs w F bs l us->Dyn.DenLAs w F bs m us
 |[],[],_,_,k=>k
 |[],_::_,h,_,_=>by cases h
 |_::_,[],h,_,_=>by cases h
 |x::l,y::m,h,us,k=>by
  unfold eqLAs at h
  cases e:eqLA x y with
  |false=>rw[e]at h;cases h
  |true=>
   rw[e]at h
   cases us with
   |nil=>exact k.elim
   |cons u us=>
    refine⟨?_,eqLAs_den h k.2⟩
    unfold eqLA at e
    split at e
    ·exact DVd.den (eqDV_ok e) k.1
    ·rename_i i o j p
     cases e1:Nat.beq i j with
     |false=>rw[e1]at e;cases e
     |true=>
      rw[e1]at e
      have h1:=Nat.eq_of_beq_eq_true e1
      have h2:=Nat.eq_of_beq_eq_true e
      subst h1;subst h2
      exact k.1
    ·cases e
theorem give_eq{P:Program}{K:Nat}{l:List Dyn.LA}{t:TypeId}{cs:List Value}{r r':Dyn.RV}(hr:∀{w:World} {F:Nat->Prop} {u:Value},Dyn.DenR w F r u->Dyn.DenR w F r' u)(h:Dyn.GiveP P K l t cs r):Dyn.GiveP P K l t cs r':=λw F b us hF hn hb hd=>by
 have k:=h w F b us hF hn hb hd
 split at k
 ·obtain⟨rfl,k⟩:=k
  refine⟨rfl,k.mono ?_⟩
  rintro e w2 ⟨u,rfl,h1,h2⟩
  exact⟨u,rfl,hr h1,h2⟩
 ·exact k.elim
theorem closed_give{P:Program}{X:Dyn.Tabs}(ht:Dyn.TabsOk P X)(hm:P.follows .mixedOrders=true){K:Nat}{fn:Func}(hf:P.funcs[K]? = some fn)(hn:(fn.name=="runtime.NumGoroutine")=false){c:Code}(hb:fn.body=some c){fuel:Nat}{t:TypeId}{cs:List Value}{az:List Dyn.LA}{r:Dyn.RV}
  (hp:Dyn.pOks (Dyn.dvsOf az)=true) (hla:Dyn.laOk 1 az=true) (hlf:Dyn.lentFlat [(t,cs)]=true) (h:roEq ((Dyn.dfunX P X Dyn.noLp fuel fn [(t,cs)] az).ro P fn.results) r=true):Dyn.GiveP P K az t cs r:=by
 cases e:(Dyn.dfunX P X Dyn.noLp fuel fn [(t,cs)] az).ro P fn.results with
 |leaf r0=>
  rw[e]at h
  exact give_eq (λhd=>eqRV_den h hd) (Dyn.gcontract (fuel:=fuel) ht hm hf hn hb (λw0=>Dyn.noLp_ok _ w0) hp hla hlf e (Dyn.RVLe.refl r0))
 |ite b x y=>rw[e]at h;cases h
 |side ps x=>rw[e]at h;cases h
 |fail=>rw[e]at h;cases h
def enGs(az:List Dyn.LA)(t0:TypeId)(cs0:List Value)(r:Dyn.RV):List Dyn.LA->TypeId->List Value->Option (Dyn.RV×List Prop):=λbz t cs=>bif eqLAs bz az then bif Nat.beq t t0 then bif eqCells cs cs0 then some (r,[])else none else none else none
theorem enGs_ok{P:Program}{K:Nat}{az:List Dyn.LA}{t0:TypeId}{cs0:List Value}{r:Dyn.RV}(h:Dyn.GiveP P K az t0 cs0 r):Dyn.EntryGOk P (K,enGs az t0 cs0 r):=λbz t cs r' ps hr hp=>by
 dsimp only[enGs]at hr
 cases e:eqLAs bz az with
 |false=>rw[e]at hr;cases hr
 |true=>
  cases e1:Nat.beq t t0 with
  |false=>rw[e,e1]at hr;cases hr
  |true=>
   cases e2:eqCells cs cs0 with
   |false=>rw[e,e1,e2]at hr;cases hr
   |true=>
    rw[e,e1,e2]at hr
    cases hr
    have h1:=Nat.eq_of_beq_eq_true e1
    have h2:=eqCells_ok e2
    subst h1;subst h2
    intro w F b us hF hn hb hd
    exact h w F b us hF hn hb (eqLAs_den e hd)
def vT:Vw:=⟨-10000000,-10000000,10000000,2,2,0⟩
theorem vT_G:VwG vT:=⟨.inl rfl,by decide,by decide,λh=>(by cases h),by decide,by decide,by decide,by decide,by decide,by decide,by decide,by decide⟩
def lT:Shp:=lForm 1 (λ_=>true) (λ_=>shP)
theorem shP_fine:Fine (PB 20000000) shP 0:=.inr (.inr (.inr (.inr (.inl ⟨rfl,rfl,rfl,rfl,rfl,rfl,by decide,λi hi=>⟨by show(4:Nat)<=12;decide,λk hk=>by
 have hk:k<4:=hk
 show PB 20000000 (ptsT 0 k)
 rcases(show k=0\/k=1\/k=2\/k=3 by omega)with rfl|rfl|rfl|rfl<;>exact⟨⟨by decide,by decide⟩,by decide,by decide⟩⟩⟩))))
theorem okP:okS shP=true:=by kernel_rfl
theorem lT_good:GoodN lT:=by
 refine⟨λi _ h=>?_,λi _ hh b hb ha q hs hq=>?_⟩
 ·have h:(figBndC shP).2=false:=h
  rw[show(figBndC shP).2=true by kernel_rfl]at h;cases h
 ·have ha:apart (figBndC shP).1 b=true:=ha
  have eB:figBndC shP=bndF shP:=by unfold figBndC;rw[okP];rfl
  show figClassC shP q=0
  rw[eB]at ha
  unfold figClassC
  rw[okP]
  exact free_off (by decide) hq shP 0 shP_fine rfl λh2=>Off.box hs (apart_off ((fine_bnd (by decide) shP 0 shP_fine).2 h2) hb ha)
def fT:Nat->List Dyn.DC:=λ_=>partC true (toSh shP)
def rowQ:Dyn.DC:=.row 1 fT
theorem fT_lst:PxD 1 fT/\GoodN (lstD 1 fT)/\∀b,pClassC (lstD 1 fT) b=pClassC lT b:=by
 have cn:cntS shP=0:=rfl
 have k:=lstD_ok (n:=1) (f:=fT) (add:=λ_=>true) (sub:=λ_=>shP) (by decide) (λi _=>⟨shP_B,by omega⟩) λi hi=>.inl rfl
 exact⟨k.1,k.2.2 lT_good,k.2.1⟩
def rObQ:Dyn.RV:=.tup [.one rowQ,dvI 0,dvI 0]
theorem objects_Q:Dyn.GiveP Tryz.prog 44 [.lp 0 0] 165 (csLz (.slice none 0 0) 0 0) rObQ:=
 give_eq (λhd=>Dyn.DenR_le (show Dyn.RVLe (.tup [.one rowO,dvI 0,dvI 0]) rObQ from⟨⟨rfl,λi hi=>by
  obtain rfl:i=0:=by omega
  show partC true (cpE (toSh shP))=partC true (toSh shP)
  unfold cpE
  rw[ofSh_toSh]⟩,Dyn.DVLe.refl _,Dyn.DVLe.refl _,trivial⟩) hd) objects_give
def rRnT:Dyn.RV:=.tup [.one (.row 4 λ_=>[cI 1,cI 1]),dvI 0]
theorem lT_cls:∀i,i<4->pClassC lT (pxI vT i)=2:=λi hi=>by
 rcases(show i=0\/i=1\/i=2\/i=3 by omega)with rfl|rfl|rfl|rfl<;>kernel_rfl
theorem render_T:Dyn.GiveP Tryz.prog 21 [.d (.one rowQ),.d (dvV vT),.lp 0 0] 107 [vi 100,vi 0] rRnT:=by
 have k:=enRn_ok [.d (.one (.row 1 fT)),.d (dvV vT),.lp 0 0] 107 [vi 100,vi 0] (.tup [.one (.row (pxN vT) (cvR (lstD 1 fT) vT)),dvI 0]) _ rfl ⟨fT_lst.1,fT_lst.2.1,vT_G,⟨rfl,by decide,by decide⟩,trivial⟩
 have le:Dyn.RVLe (.tup [.one (.row (pxN vT) (cvR (lstD 1 fT) vT)),dvI 0]) rRnT:=⟨⟨rfl,λi hi=>by
  have hi:i<4:=hi
  show[cI (cvI (lstD 1 fT) vT i).1,cI (cvI (lstD 1 fT) vT i).2]=[cI 1,cI 1]
  have e:cvI (lstD 1 fT) vT i=(1,1):=by
   show(bif pClassC (lstD 1 fT) (pxI vT i)==0 then(0,0)else bif pClassC (lstD 1 fT) (pxI vT i)==2 then(cellsN 0,cellsN 0)else(0,1))=(1,1)
   rw[fT_lst.2.2,lT_cls i hi];rfl
  rw[e]⟩,Dyn.DVLe.refl _,trivial⟩
 exact give_eq (λhd=>Dyn.DenR_le le hd) k
noncomputable def tab0c:Dyn.Tabs:={tab0 with cl:=true,dty:=λ_=>true}
theorem tab0c_ok:Dyn.TabsOk Tryz.prog tab0c:=by
 constructor
 case tb=>intro K args v ps h;simp[tab0,tab0c]at h
 all_goals (intros;simp_all [tab0,tab0c])
def nilC0:Dyn.DC:=.row 0 λ_=>[]
def layT:Nat->List Dyn.DC:=λ_=>[.p (.string topText.toUTF8),cI 9,cI 0,cI 0,cI 255,cB false]
def dvJob:Dyn.DV:=.agg (cV vT++[.row 1 layT,nilC0,cI 0,cI 0,cI 0,cI 10,cI 100])
def rCvT:Dyn.RV:=.tup [.one (.row 4 λ_=>[cI 1,cI 1]),.agg [cI 0,cI 0,cI 0,cI 0]]
noncomputable def gvCr:List Dyn.EntryG:=[(44,enGs [.lp 0 0] 165 (csLz (.slice none 0 0) 0 0) rObQ),(21,enGs [.d (.one rowQ),.d (dvV vT),.lp 0 0] 107 [vi 100,vi 0] rRnT)]
theorem gvCr_ok:∀e∈gvCr,Dyn.EntryGOk Tryz.prog e:=List.forall_mem_cons.2 ⟨enGs_ok objects_Q,List.forall_mem_cons.2 ⟨enGs_ok render_T,λ_ h=>by cases h⟩⟩
noncomputable def tabCr0:Dyn.Tabs:={tab0 with cl:=true,dres:=λn=>memN n [44,21],dty:=λ_=>true,gv:=Dyn.gvOf gvCr}
theorem tabCr0_ok:Dyn.TabsOk Tryz.prog tabCr0:=by
 constructor
 case gv=>exact Dyn.gvOf_ok gvCr_ok
 case tb=>intro K args v ps h;simp[tab0,tabCr0]at h
 all_goals (intros;simp_all [tab0,tabCr0])
noncomputable def tabCr:Dyn.Tabs:=Dyn.inlT Tryz.prog tabCr0 (fnsR 43 43 []) (λ_=>Dyn.noLp) 12 8 8
theorem tabCr_ok:Dyn.TabsOk Tryz.prog tabCr:=Dyn.inlT_ok tabCr0_ok mo (fnsR_ok (by kernel_rfl)) 8
theorem cover_T:Dyn.GiveP Tryz.prog 26 [.d dvJob,.d (dvI 0),.d (.one nilC0),.lp 0 0] 107 [vi 100,vi 0] rCvT:=
 closed_give (fuel:=12) tabCr_ok mo Tryz.func26 (by kernel_rfl) (c:=bodyD Tryz.f26.body) (by kernel_rfl) (by kernel_rfl) (by kernel_rfl) (by kernel_rfl) (by kernel_rfl)
def toneV(x:Int):Dyn.DV:=.agg [cI x,cI x]
noncomputable def tabMx:Dyn.Tabs:=Dyn.inlT Tryz.prog tab0c (fnsR 46 47 []) (λ_=>Dyn.noLp) 12 8 8
theorem tabMx_ok:Dyn.TabsOk Tryz.prog tabMx:=Dyn.inlT_ok tab0c_ok mo (fnsR_ok (by kernel_rfl)) 8
theorem over_9:Dyn.CallD Tryz.prog 27 [toneV 0,dvI 9,dvI 255,toneV 1,dvI 1] (.tup [toneV 589824,dvB true]):=closed_call (fuel:=12) tabMx_ok mo Tryz.func27 (by kernel_rfl) rfl (by kernel_rfl) (by kernel_rfl)
theorem over_0:Dyn.CallD Tryz.prog 27 [toneV 0,dvI 0,dvI 255,toneV 1,dvI 1] (.tup [toneV 0,dvB true]):=closed_call (fuel:=12) tabMx_ok mo Tryz.func27 (by kernel_rfl) rfl (by kernel_rfl) (by kernel_rfl)
noncomputable def tabVd:Dyn.Tabs:=Dyn.inlT Tryz.prog tab0c (fnsR 22 68 []) (λ_=>Dyn.noLp) 12 16 8
theorem tabVd_ok:Dyn.TabsOk Tryz.prog tabVd:=Dyn.inlT_ok tab0c_ok mo (fnsR_ok (by kernel_rfl)) 8
theorem valid_T:Dyn.CallD Tryz.prog 22 [dvJob] (rB true):=closed_call (fuel:=12) tabVd_ok mo Tryz.func22 (by kernel_rfl) rfl (by kernel_rfl) (by kernel_rfl)
theorem cells_T:Dyn.CallD Tryz.prog 25 [dvV vT] (rI 1):=closed_call (fuel:=12) tabVd_ok mo Tryz.func25 (by kernel_rfl) rfl (by kernel_rfl) (by kernel_rfl)
theorem drilled_T:Dyn.CallD Tryz.prog 23 [dvJob] (.tup [.one nilC0,.agg [cI 0,cI 0,cI 0,cI 0]]):=closed_call (fuel:=12) tabVd_ok mo Tryz.func23 (by kernel_rfl) rfl (by kernel_rfl) (by kernel_rfl)
theorem start_T:Dyn.CallD Tryz.prog 24 [dvI 0] (.val (toneV 0)):=closed_call (fuel:=12) tabVd_ok mo Tryz.func24 (by kernel_rfl) rfl (by kernel_rfl) (by kernel_rfl)
def cU(x:Int):Dyn.DC:=.p (.int .u8 x)
theorem byte_9:Dyn.CallD Tryz.prog 28 [toneV 589824] (.val (.one (cU 9))):=closed_call (fuel:=12) tabVd_ok mo Tryz.func28 (by kernel_rfl) rfl (by kernel_rfl) (by kernel_rfl)
theorem byte_0:Dyn.CallD Tryz.prog 28 [toneV 0] (.val (.one (cU 0))):=closed_call (fuel:=12) tabVd_ok mo Tryz.func28 (by kernel_rfl) rfl (by kernel_rfl) (by kernel_rfl)
noncomputable def tdBr:List Dyn.EntryD:=[(27,enCs [([toneV 0,dvI 9,dvI 255,toneV 1,dvI 1],.tup [toneV 589824,dvB true]),([toneV 0,dvI 0,dvI 255,toneV 1,dvI 1],.tup [toneV 0,dvB true])]),
 (22,enCs [([dvJob],rB true)]),(25,enCs [([dvV vT],rI 1)]),(23,enCs [([dvJob],.tup [.one nilC0,.agg [cI 0,cI 0,cI 0,cI 0]])]),(24,enCs [([dvI 0],.val (toneV 0))]),
 (28,enCs [([toneV 589824],.val (.one (cU 9))),([toneV 0],.val (.one (cU 0)))])]
theorem tdBr_ok:∀e∈tdBr,Dyn.EntryDOk Tryz.prog e:=List.forall_mem_cons.2 ⟨enCs_ok (List.forall_mem_cons.2 ⟨over_9,List.forall_mem_cons.2 ⟨over_0,λ_ h=>by cases h⟩⟩),List.forall_mem_cons.2 ⟨enCs_ok (List.forall_mem_cons.2 ⟨valid_T,λ_ h=>by cases h⟩),
 List.forall_mem_cons.2 ⟨enCs_ok (List.forall_mem_cons.2 ⟨cells_T,λ_ h=>by cases h⟩),List.forall_mem_cons.2 ⟨enCs_ok (List.forall_mem_cons.2 ⟨drilled_T,λ_ h=>by cases h⟩),List.forall_mem_cons.2 ⟨enCs_ok (List.forall_mem_cons.2 ⟨start_T,λ_ h=>by cases h⟩),
 List.forall_mem_cons.2 ⟨enCs_ok (List.forall_mem_cons.2 ⟨byte_9,List.forall_mem_cons.2 ⟨byte_0,λ_ h=>by cases h⟩⟩),λ_ h=>by cases h⟩⟩⟩⟩⟩⟩
noncomputable def gvBr:List Dyn.EntryG:=[(26,enGs [.d dvJob,.d (dvI 0),.d (.one nilC0),.lp 0 0] 107 [vi 100,vi 0] rCvT)]
theorem gvBr_ok:∀e∈gvBr,Dyn.EntryGOk Tryz.prog e:=List.forall_mem_cons.2 ⟨enGs_ok cover_T,λ_ h=>by cases h⟩
noncomputable def tabBr0:Dyn.Tabs:={tab0 with cl:=true,dres:=λn=>memN n [26,20,23],dty:=λ_=>true,td:=Dyn.tdOf tdBr,gv:=Dyn.gvOf gvBr,nw:=nwM}
theorem tabBr0_ok:Dyn.TabsOk Tryz.prog tabBr0:=by
 constructor
 case gv=>exact Dyn.gvOf_ok gvBr_ok
 case td=>exact Dyn.tdOf_ok tdBr_ok
 case nw=>exact nwM_ok
 case tb=>intro K args v ps h;simp[tab0,tabBr0]at h
 all_goals (intros;simp_all [tab0,tabBr0])
end Go.Proofs.YtmekpbopoknigaaGreatDoor

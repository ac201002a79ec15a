import Derived.Test.YtmekpbopoknigaaGreatDoorQT
namespace Go.Proofs.YtmekpbopoknigaaGreatDoor
open Go Go.RowKit Sym
set_option maxRecDepth 1000000
def ptsT(_:Nat):Nat->P2
 |0=>⟨-20000000,-20000000⟩
 |1=>⟨20000000,-20000000⟩
 |2=>⟨20000000,20000000⟩
 |_=>⟨-20000000,20000000⟩
def shTq:Sh:=⟨2,⟨0,0⟩,⟨0,0⟩,⟨0,0⟩,0,⟨1,λ_=>4,ptsT⟩,0,λ_=>[]⟩
def dvNil:Dyn.DV:=.one (.row 0 λ_=>[])
def dvObjT:Dyn.DV:=.one (.row 1 λ_=>cB true::cS shTq)
noncomputable def tabWq:Dyn.Tabs:=Dyn.inlT Tryz.prog tabIx (fnsR 5 315 []) (λ_=>Dyn.noLp) 12 8 8
theorem tabWq_ok:Dyn.TabsOk Tryz.prog tabWq:=Dyn.inlT_ok tabIx_ok mo (fnsR_ok (by kernel_rfl)) 8
def aMk:List Dyn.DV:=[strV "R",.one (rowI [4000000,4000000]),dvI 1,dvNil]
def rMk:Dyn.RV:=.tup [.agg (cS shTq++[cI 0]),dvI 0]
def tn0:Tn:=⟨false,false,0,⟨0,0⟩⟩
def aCo:List Dyn.DV:=[strV "0",.agg [cI 1,cI 2,cI 4,cB false]]
theorem make_T:Dyn.CallD Tryz.prog 191 aMk rMk:=closed_call (fuel:=12) tabWq_ok mo Tryz.func191 (by kernel_rfl) rfl (by kernel_rfl) (by kernel_rfl)
theorem apply_T:Dyn.CallD Tryz.prog 10 [dvS shTq,dvT tn0] (.tup [dvS shTq,dvB true]):=closed_call (fuel:=12) tabWq_ok mo Tryz.func10 (by kernel_rfl) rfl (by kernel_rfl) (by kernel_rfl)
theorem okS_T:Dyn.CallD Tryz.prog 17 [dvS shTq] (rB true):=closed_call (fuel:=12) tabWq_ok mo Tryz.func17 (by kernel_rfl) rfl (by kernel_rfl) (by kernel_rfl)
theorem coord_T:Dyn.CallD Tryz.prog 195 aCo (.tup [dvI 0,dvB true]):=closed_call (fuel:=12) tabWq_ok mo Tryz.func195 (by kernel_rfl) rfl (by kernel_rfl) (by kernel_rfl)
noncomputable def tdPl:List Dyn.EntryD:=[(191,enCs [(aMk,rMk)]),(10,enCs [([dvS shTq,dvT tn0],.tup [dvS shTq,dvB true])]),(17,enCs [([dvS shTq],rB true)]),(195,enCs [(aCo,.tup [dvI 0,dvB true])])]
theorem tdPl_ok:∀e∈tdPl,Dyn.EntryDOk Tryz.prog e:=List.forall_mem_cons.2 ⟨enCs_ok (List.forall_mem_cons.2 ⟨make_T,λ_ h=>by cases h⟩),List.forall_mem_cons.2 ⟨enCs_ok (List.forall_mem_cons.2 ⟨apply_T,λ_ h=>by cases h⟩),List.forall_mem_cons.2 ⟨enCs_ok (List.forall_mem_cons.2 ⟨okS_T,λ_ h=>by cases h⟩),
 List.forall_mem_cons.2 ⟨enCs_ok (List.forall_mem_cons.2 ⟨coord_T,λ_ h=>by cases h⟩),λ_ h=>by cases h⟩⟩⟩⟩
noncomputable def tabPl0:Dyn.Tabs:={tab0 with cl:=true,dres:=λn=>memN n [191,10],dty:=λ_=>true,td:=Dyn.tdOf tdPl}
theorem tabPl0_ok:Dyn.TabsOk Tryz.prog tabPl0:=by
 constructor
 case td=>exact Dyn.tdOf_ok tdPl_ok
 case tb=>intro K args v ps h;simp[tab0,tabPl0]at h
 all_goals (intros;simp_all [tab0,tabPl0])
noncomputable def tabPl:Dyn.Tabs:=Dyn.inlT Tryz.prog tabPl0 (fnsR 5 315 [191,10,17,195]) (λ_=>Dyn.noLp) 12 8 8
theorem tabPl_ok:Dyn.TabsOk Tryz.prog tabPl:=Dyn.inlT_ok tabPl0_ok mo (fnsR_ok (by kernel_rfl)) 8
end Go.Proofs.YtmekpbopoknigaaGreatDoor

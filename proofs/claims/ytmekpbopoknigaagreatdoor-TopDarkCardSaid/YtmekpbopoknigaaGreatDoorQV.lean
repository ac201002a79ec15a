import Derived.Test.YtmekpbopoknigaaGreatDoorQU
namespace Go.Proofs.YtmekpbopoknigaaGreatDoor
open Go Go.RowKit Sym
set_option maxRecDepth 1000000
def rPlt:Dyn.RV:=.tup [dvObjT,dvI 0,dvI 0]
theorem plot_T:Dyn.CallD Tryz.prog 81 [dvCmds,dvI 10] rPlt:=closed_call (fuel:=12) tabPl_ok mo Tryz.func81 (by kernel_rfl) rfl (by kernel_rfl) (by kernel_rfl)
def rPrs:Dyn.RV:=.tup [dvCmds,dvI 0,dvI 0]
noncomputable def tdFl:List Dyn.EntryD:=[(80,enCs [([strV topText],rPrs)]),(81,enCs [([dvCmds,dvI 10],rPlt)])]
theorem tdFl_ok:∀e∈tdFl,Dyn.EntryDOk Tryz.prog e:=List.forall_mem_cons.2 ⟨enCs_ok (List.forall_mem_cons.2 ⟨parse_T,λ_ h=>by cases h⟩),List.forall_mem_cons.2 ⟨enCs_ok (List.forall_mem_cons.2 ⟨plot_T,λ_ h=>by cases h⟩),λ_ h=>by cases h⟩⟩
noncomputable def tabFl:Dyn.Tabs:={tab0 with cl:=true,dres:=λn=>memN n [80,81],dty:=λ_=>true,td:=Dyn.tdOf tdFl}
theorem tabFl_ok:Dyn.TabsOk Tryz.prog tabFl:=by
 constructor
 case td=>exact Dyn.tdOf_ok tdFl_ok
 case tb=>intro K args v ps h;simp[tab0,tabFl]at h
 all_goals (intros;simp_all [tab0,tabFl])
theorem file_T:Dyn.CallD Tryz.prog 65 [strV topText,dvI 10] rPlt:=closed_call (fuel:=12) tabFl_ok mo Tryz.func65 (by kernel_rfl) rfl (by kernel_rfl) (by kernel_rfl)
end Go.Proofs.YtmekpbopoknigaaGreatDoor

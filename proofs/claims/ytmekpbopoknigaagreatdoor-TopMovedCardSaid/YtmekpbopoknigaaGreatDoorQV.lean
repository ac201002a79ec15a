import Derived.Test.YtmekpbopoknigaaGreatDoorQU
namespace Go.Proofs.YtmekpbopoknigaaGreatDoor
open Go Go.RowKit Sym
set_option maxRecDepth 1000000
def rPlt:Dyn.RV:=.tup [dvObjT,dvI 0,dvI 0]
theorem plot_T:Dyn.zav Tryz.prog 81 [z31,dvI 10] rPlt:=za1 (fuel:=12) yfl mo Tryz.func81 (by kernel_rfl) rfl (by kernel_rfl) (by kernel_rfl)
def rPrs:Dyn.RV:=.tup [z31,dvI 0,dvI 0]
noncomputable def tdFl:List Dyn.zb2:=[(80,enCs [([strV zi1],rPrs)]),(81,enCs [([z31,dvI 10],rPlt)])]
theorem ylo:∀e∈tdFl,Dyn.zbu Tryz.prog e:=List.forall_mem_cons.2 ⟨zdm (List.forall_mem_cons.2 ⟨ymy,λ_ h=>by cases h⟩),List.forall_mem_cons.2 ⟨zdm (List.forall_mem_cons.2 ⟨plot_T,λ_ h=>by cases h⟩),λ_ h=>by cases h⟩⟩
noncomputable def yl5:Dyn.Tabs:={tab0 with cl:=true,dres:=λn=>memN n [80,81],dty:=λ_=>true,td:=Dyn.tdOf tdFl}
theorem yfp:Dyn.zal Tryz.prog yl5:=by
 constructor
 case td=>exact Dyn.zhw ylo
 case tb=>intro K args v ps h;simp[tab0,yl5]at h
 all_goals (intros;simp_all [tab0,yl5])
theorem file_T:Dyn.zav Tryz.prog 65 [strV zi1,dvI 10] rPlt:=za1 (fuel:=12) yfp mo Tryz.func65 (by kernel_rfl) rfl (by kernel_rfl) (by kernel_rfl)
end Go.Proofs.YtmekpbopoknigaaGreatDoor

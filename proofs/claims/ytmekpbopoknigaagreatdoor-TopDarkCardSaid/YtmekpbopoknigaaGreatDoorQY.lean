import Derived.Test.YtmekpbopoknigaaGreatDoorQX
namespace Go.Proofs.YtmekpbopoknigaaGreatDoor
open Go Go.RowKit Sym
set_option maxRecDepth 1000000
def pixT(i:Nat):List Dyn.DC:=[cU (bif Nat.beq (i%3) 0 then 9 else 0)]
def rBdT:Dyn.RV:=.tup [.agg [cI 2,cI 2,cB true,.row 12 pixT],.agg [cI 0,cI 0,cI 0,cI 0]]
theorem boardRender_T:Dyn.CallD Tryz.prog 15 [dvJob] rBdT:=closed_call (fuel:=14) tabBr0_ok mo Tryz.func15 (by kernel_rfl) rfl (by kernel_rfl) (by kernel_rfl)
noncomputable def tdAw:List Dyn.EntryD:=[(15,enCs [([dvJob],rBdT)])]
theorem tdAw_ok:∀e∈tdAw,Dyn.EntryDOk Tryz.prog e:=List.forall_mem_cons.2 ⟨enCs_ok (List.forall_mem_cons.2 ⟨boardRender_T,λ_ h=>by cases h⟩),λ_ h=>by cases h⟩
noncomputable def tabAw0:Dyn.Tabs:={tab0 with cl:=true,dres:=λn=>memN n [15],dty:=λ_=>true,td:=Dyn.tdOf tdAw}
theorem tabAw0_ok:Dyn.TabsOk Tryz.prog tabAw0:=by
 constructor
 case td=>exact Dyn.tdOf_ok tdAw_ok
 case tb=>intro K args v ps h;simp[tab0,tabAw0]at h
 all_goals (intros;simp_all [tab0,tabAw0])
theorem awakeT:Dyn.CallD Tryz.prog 6 [] (rB true):=closed_call (fuel:=12) tabAw0_ok mo Tryz.func6 (by kernel_rfl) rfl (by kernel_rfl) (by kernel_rfl)
end Go.Proofs.YtmekpbopoknigaaGreatDoor

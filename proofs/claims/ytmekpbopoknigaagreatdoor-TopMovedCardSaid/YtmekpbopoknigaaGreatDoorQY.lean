import Derived.Test.YtmekpbopoknigaaGreatDoorQX
namespace Go.Proofs.YtmekpbopoknigaaGreatDoor
open Go Go.RowKit Sym
set_option maxRecDepth 1000000
def pixT(i:Nat):List Dyn.DC:=[cU (bif Nat.beq (i%3) 0 then 9 else 0)]
def rBdT:Dyn.RV:=.tup [.agg [cI 2,cI 2,cB true,.row 12 pixT],.agg [cI 0,cI 0,cI 0,cI 0]]
theorem zv9:Dyn.zav Tryz.prog 15 [zyk] rBdT:=za1 (fuel:=14) z82 mo Tryz.func15 (by kernel_rfl) rfl (by kernel_rfl) (by kernel_rfl)
noncomputable def tdAw:List Dyn.zb2:=[(15,enCs [([zyk],rBdT)])]
theorem ylq:∀e∈tdAw,Dyn.zbu Tryz.prog e:=List.forall_mem_cons.2 ⟨zdm (List.forall_mem_cons.2 ⟨zv9,λ_ h=>by cases h⟩),λ_ h=>by cases h⟩
noncomputable def z86:Dyn.Tabs:={tab0 with cl:=true,dres:=λn=>memN n [15],dty:=λ_=>true,td:=Dyn.tdOf tdAw}
theorem z85:Dyn.zal Tryz.prog z86:=by
 constructor
 case td=>exact Dyn.zhw ylq
 case tb=>intro K args v ps h;simp[tab0,z86]at h
 all_goals (intros;simp_all [tab0,z86])
theorem awakeT:Dyn.zav Tryz.prog 6 [] (rB true):=za1 (fuel:=12) z85 mo Tryz.func6 (by kernel_rfl) rfl (by kernel_rfl) (by kernel_rfl)
end Go.Proofs.YtmekpbopoknigaaGreatDoor

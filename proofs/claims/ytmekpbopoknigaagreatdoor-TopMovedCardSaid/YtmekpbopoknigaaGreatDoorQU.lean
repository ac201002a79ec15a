import Derived.Test.YtmekpbopoknigaaGreatDoorQT
namespace Go.Proofs.YtmekpbopoknigaaGreatDoor
open Go Go.RowKit Sym
set_option maxRecDepth 1000000
def ptsT(_:Nat):Nat->P2
 |0=>⟨-20000000,-20000000⟩
 |1=>⟨20000000,-20000000⟩
 |2=>⟨20000000,20000000⟩
 |_=>⟨-20000000,20000000⟩
def shTq:Sh:=⟨2,⟨0,0⟩,⟨0,0⟩,⟨0,0⟩,0,⟨1,λ_=>4,ptsT⟩,0,λ_=>[]⟩
def dvNil:Dyn.DV:=.one (.row 0 λ_=>[])
def dvObjT:Dyn.DV:=.one (.row 1 λ_=>cB true::cS shTq)
noncomputable def tabWq:Dyn.Tabs:=Dyn.inlT Tryz.prog yfo (fnsR 5 315 []) (λ_=>Dyn.noLp) 12 8 8
theorem zpz:Dyn.zal Tryz.prog tabWq:=Dyn.zjf z16 mo (zou (by kernel_rfl)) 8
def aMk:List Dyn.DV:=[strV "R",.one (rowI [4000000,4000000]),dvI 1,dvNil]
def rMk:Dyn.RV:=.tup [.agg (cS shTq++[cI 0]),dvI 0]
def tn0:Tn:=⟨false,false,0,⟨0,0⟩⟩
def aCo:List Dyn.DV:=[strV "0",.agg [cI 1,cI 2,cI 4,cB false]]
theorem make_T:Dyn.zav Tryz.prog 191 aMk rMk:=za1 (fuel:=12) zpz mo Tryz.func191 (by kernel_rfl) rfl (by kernel_rfl) (by kernel_rfl)
theorem yo8:Dyn.zav Tryz.prog 10 [dvS shTq,dvT tn0] (.tup [dvS shTq,dvB true]):=za1 (fuel:=12) zpz mo Tryz.func10 (by kernel_rfl) rfl (by kernel_rfl) (by kernel_rfl)
theorem okS_T:Dyn.zav Tryz.prog 17 [dvS shTq] (rB true):=za1 (fuel:=12) zpz mo Tryz.func17 (by kernel_rfl) rfl (by kernel_rfl) (by kernel_rfl)
theorem yop:Dyn.zav Tryz.prog 195 aCo (.tup [dvI 0,dvB true]):=za1 (fuel:=12) zpz mo Tryz.func195 (by kernel_rfl) rfl (by kernel_rfl) (by kernel_rfl)
noncomputable def tdPl:List Dyn.zb2:=[(191,enCs [(aMk,rMk)]),(10,enCs [([dvS shTq,dvT tn0],.tup [dvS shTq,dvB true])]),(17,enCs [([dvS shTq],rB true)]),(195,enCs [(aCo,.tup [dvI 0,dvB true])])]
theorem ylm:∀e∈tdPl,Dyn.zbu Tryz.prog e:=List.forall_mem_cons.2 ⟨zdm (List.forall_mem_cons.2 ⟨make_T,λ_ h=>by cases h⟩),List.forall_mem_cons.2 ⟨zdm (List.forall_mem_cons.2 ⟨yo8,λ_ h=>by cases h⟩),List.forall_mem_cons.2 ⟨zdm (List.forall_mem_cons.2 ⟨okS_T,λ_ h=>by cases h⟩),
 List.forall_mem_cons.2 ⟨zdm (List.forall_mem_cons.2 ⟨yop,λ_ h=>by cases h⟩),λ_ h=>by cases h⟩⟩⟩⟩
noncomputable def z11:Dyn.Tabs:={tab0 with cl:=true,dres:=λn=>memN n [191,10],dty:=λ_=>true,td:=Dyn.tdOf tdPl}
theorem z8v:Dyn.zal Tryz.prog z11:=by
 constructor
 case td=>exact Dyn.zhw ylm
 case tb=>intro K args v ps h;simp[tab0,z11]at h
 all_goals (intros;simp_all [tab0,z11])
noncomputable def tabPl:Dyn.Tabs:=Dyn.inlT Tryz.prog z11 (fnsR 5 315 [191,10,17,195]) (λ_=>Dyn.noLp) 12 8 8
theorem yfl:Dyn.zal Tryz.prog tabPl:=Dyn.zjf z8v mo (zou (by kernel_rfl)) 8
end Go.Proofs.YtmekpbopoknigaaGreatDoor

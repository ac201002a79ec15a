import Derived.Test.YtmekpbopoknigaaGreatDoorQS
namespace Go.Proofs.YtmekpbopoknigaaGreatDoor
open Go Go.RowKit Sym
set_option maxRecDepth 1000000
def zi1:String:="%FSLAX24Y24*%%MOMM*%%ADD10R,4X4*%D10*X0Y0D03*M02*"
def wdL6:Nat->Wd
 |0=>⟨1,true,true,"FSLAX24Y24".toUTF8⟩
 |1=>⟨14,true,true,"MOMM".toUTF8⟩
 |2=>⟨21,true,true,"ADD10R,4X4".toUTF8⟩
 |3=>⟨33,false,true,"D10".toUTF8⟩
 |4=>⟨37,false,true,"X0Y0D03".toUTF8⟩
 |_=>⟨45,false,true,"M02".toUTF8⟩
theorem z7m:eqRV (rvWd (z61 zi1.toUTF8)) (rvWd (6,wdL6,0,0))=true:=by kernel_rfl
def rowI(l:List Int):Dyn.DC:=.row l.length λi=>[.p (.int .i64 (l.getD i 0))]
def cSt(s:String):Dyn.DC:=.p (.string s.toUTF8)
def cmdC(at_ kind n m:Int)(on:Bool)(text x y:String)(nums:List Int):List Dyn.DC:=
 [cI at_,cI kind,cI n,cI m,cB on,cSt text,cSt x,cSt y,cSt "",cSt "",rowI nums,.row 0 λ_=>[]]
def cmd6(q:Bool):Nat->List Dyn.DC
 |0=>cmdC (bif q then 1 else 0) 8 2 4 false "" "" "" []
 |1=>cmdC (bif q then 14 else 0) 9 1 0 false "" "" "" []
 |2=>cmdC (bif q then 21 else 0) 10 10 0 false "R" "" "" [4000000,4000000]
 |3=>cmdC (bif q then 33 else 0) 6 10 0 false "" "" "" []
 |4=>cmdC (bif q then 37 else 0) 7 3 0 false "" "0" "0" []
 |_=>cmdC (bif q then 45 else 0) 5 0 0 false "" "" "" []
def wd1(k:Nat):Dyn.DV:=.one (.row 1 λ_=>wdC (wdL6 k))
def rGrp(k:Nat):Dyn.RV:=.tup [.one (.row 1 λ_=>cmd6 false k),dvI 0,dvI 0]
def rPln(k:Nat):Dyn.RV:=.tup [.one (.row 1 λ_=>cmd6 false k),dvI 0]
def z31:Dyn.DV:=.one (.row 6 (cmd6 true))
theorem yk2:Dyn.zav Tryz.prog 101 [strV zi1] (rvWd (6,wdL6,0,0)):=znu z7m (ydu _)
noncomputable def yfo:Dyn.Tabs:={tab0 with cl:=true,dty:=λ_=>true,tb:=tbOf tbIx}
theorem z16:Dyn.zal Tryz.prog yfo:=by
 constructor
 case tb=>exact zas ylr
 all_goals (intros;simp_all [tab0,yfo])
noncomputable def tabWp:Dyn.Tabs:=Dyn.inlT Tryz.prog yfo (fnsR 79 315 []) (λ_=>Dyn.noLp) 12 8 8
theorem zk0:Dyn.zal Tryz.prog tabWp:=Dyn.zjf z16 mo (zou (by kernel_rfl)) 8
theorem grp0:Dyn.zav Tryz.prog 102 [wd1 0] (rGrp 0):=za1 (fuel:=12) zk0 mo Tryz.func102 (by kernel_rfl) rfl (by kernel_rfl) (by kernel_rfl)
theorem grp1:Dyn.zav Tryz.prog 102 [wd1 1] (rGrp 1):=za1 (fuel:=12) zk0 mo Tryz.func102 (by kernel_rfl) rfl (by kernel_rfl) (by kernel_rfl)
theorem grp2:Dyn.zav Tryz.prog 102 [wd1 2] (rGrp 2):=za1 (fuel:=12) zk0 mo Tryz.func102 (by kernel_rfl) rfl (by kernel_rfl) (by kernel_rfl)
theorem pln3:Dyn.zav Tryz.prog 103 [strV "D10"] (rPln 3):=za1 (fuel:=12) zk0 mo Tryz.func103 (by kernel_rfl) rfl (by kernel_rfl) (by kernel_rfl)
theorem pln4:Dyn.zav Tryz.prog 103 [strV "X0Y0D03"] (rPln 4):=za1 (fuel:=12) zk0 mo Tryz.func103 (by kernel_rfl) rfl (by kernel_rfl) (by kernel_rfl)
theorem pln5:Dyn.zav Tryz.prog 103 [strV "M02"] (rPln 5):=za1 (fuel:=12) zk0 mo Tryz.func103 (by kernel_rfl) rfl (by kernel_rfl) (by kernel_rfl)
noncomputable def tdPt:List Dyn.zb2:=[(101,enCs [([strV zi1],rvWd (6,wdL6,0,0))]),(102,enCs [([wd1 0],rGrp 0),([wd1 1],rGrp 1),([wd1 2],rGrp 2)]),(103,enCs [([strV "D10"],rPln 3),([strV "X0Y0D03"],rPln 4),([strV "M02"],rPln 5)])]
theorem yll:∀e∈tdPt,Dyn.zbu Tryz.prog e:=List.forall_mem_cons.2 ⟨zdm (List.forall_mem_cons.2 ⟨yk2,λ_ h=>by cases h⟩),List.forall_mem_cons.2 ⟨zdm (List.forall_mem_cons.2 ⟨grp0,List.forall_mem_cons.2 ⟨grp1,List.forall_mem_cons.2 ⟨grp2,λ_ h=>by cases h⟩⟩⟩),
 List.forall_mem_cons.2 ⟨zdm (List.forall_mem_cons.2 ⟨pln3,List.forall_mem_cons.2 ⟨pln4,List.forall_mem_cons.2 ⟨pln5,λ_ h=>by cases h⟩⟩⟩),λ_ h=>by cases h⟩⟩⟩
noncomputable def ylz:Dyn.Tabs:={tab0 with cl:=true,dres:=λn=>memN n [101,102,103],dty:=λ_=>true,td:=Dyn.tdOf tdPt}
theorem yfk:Dyn.zal Tryz.prog ylz:=by
 constructor
 case td=>exact Dyn.zhw yll
 case tb=>intro K args v ps h;simp[tab0,ylz]at h
 all_goals (intros;simp_all [tab0,ylz])
theorem ymy:Dyn.zav Tryz.prog 80 [strV zi1] (.tup [z31,dvI 0,dvI 0]):=za1 (fuel:=12) yfk mo Tryz.func80 (by kernel_rfl) rfl (by kernel_rfl) (by kernel_rfl)
end Go.Proofs.YtmekpbopoknigaaGreatDoor

import Derived.Test.YtmekpbopoknigaaGreatDoorQA
import Derived.Test.YtmekpbopoknigaaGreatDoorQB
import Derived.Test.YtmekpbopoknigaaGreatDoorQC
import Derived.Test.YtmekpbopoknigaaGreatDoorQD
import Derived.Test.YtmekpbopoknigaaGreatDoorQE
import Derived.Test.YtmekpbopoknigaaGreatDoorQF
namespace Go.Proofs.YtmekpbopoknigaaGreatDoor.lawTopMoved
open Go
theorem fand{a b:Bool}(h:a=true)(k:b=true):(a&&b)=true:=by rw[h,k];rfl
set_option maxRecDepth 1000000 in
theorem facts:joinedFacts Tryz.prog 3 Tryz.f3 Rows.topMovedSpec Rows.topMovedRow=true:=by
 unfold joinedFacts
 exact(fand (fand (fand (fand (fand (fand (fand (fand (fand (fand (fand (fand (fand (fand (fand (fand (fand (fand (fand (fand (fand (fand (fand (fand (fand (fand (fand (fand (fand (fand (fand fact0 fact1) fact2) fact3) fact4) fact5) fact6) fact7) fact8) fact9) fact10) fact11) fact12) fact13) fact14) fact15) fact16) fact17) fact18) fact19) fact20) fact21) fact22) fact23) fact24) fact25) fact26) fact27) fact28) fact29) fact30) fact31)
theorem named:Tryz.prog.funcNamed Rows.topMovedRow.func=some 3:=by kernel_rfl
theorem inst:Tryz.f3.isInstance Tryz.prog Rows.topMovedRow.origin Rows.topMovedRow.targs:=of_decide_eq_true (by kernel_rfl)
theorem wrap:Tryz.f3.isWrapper Tryz.prog Rows.topMovedRow.wrapper Rows.topMovedRow.mainSum:=by unfold Func.isWrapper;first|(rw[if_pos (by decide +kernel)];kernel_rfl)|(rw[if_neg (by decide +kernel)];exact⟨rfl,rfl⟩)
end Go.Proofs.YtmekpbopoknigaaGreatDoor.lawTopMoved

import Derived.Test.YtmekpbopoknigaaGreatDoorRows
import Derived.JoinedOf
namespace Go.Proofs.YtmekpbopoknigaaGreatDoor.lawTopMoved
open Go
theorem fact11:((Rows.topMovedRow.recurses==Tryz.prog.recurses 3))=true:=by kernel_rfl
end Go.Proofs.YtmekpbopoknigaaGreatDoor.lawTopMoved

import Derived.Test.YtmekpbopoknigaaGreatDoorRows
import Derived.JoinedOf
namespace Go.Proofs.YtmekpbopoknigaaGreatDoor.lawTopDark
open Go
theorem fact9:((Rows.topDarkRow.inPlace==Tryz.prog.inPlace 4))=true:=by kernel_rfl
end Go.Proofs.YtmekpbopoknigaaGreatDoor.lawTopDark

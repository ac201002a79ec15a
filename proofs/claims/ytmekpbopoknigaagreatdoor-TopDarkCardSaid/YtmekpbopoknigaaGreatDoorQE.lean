import Derived.Test.YtmekpbopoknigaaGreatDoorRows
import Derived.JoinedOf
namespace Go.Proofs.YtmekpbopoknigaaGreatDoor.lawTopDark
open Go
theorem fact12:((Rows.topDarkRow.named==Tryz.prog.varsNamed 4))=true:=by kernel_rfl
end Go.Proofs.YtmekpbopoknigaaGreatDoor.lawTopDark

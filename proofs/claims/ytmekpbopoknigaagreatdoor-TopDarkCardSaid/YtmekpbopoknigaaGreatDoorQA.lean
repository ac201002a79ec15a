import Derived.Test.YtmekpbopoknigaaGreatDoorRows
import Derived.JoinedOf
namespace Go.Proofs.YtmekpbopoknigaaGreatDoor.lawTopDark
open Go
theorem fact0:(Rows.topDarkRow.wf (OpenSpec.ofChange Rows.topDarkSpec))=true:=by kernel_rfl
end Go.Proofs.YtmekpbopoknigaaGreatDoor.lawTopDark

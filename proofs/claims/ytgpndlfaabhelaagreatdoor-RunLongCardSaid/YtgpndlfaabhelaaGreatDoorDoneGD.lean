/-
  Closed facts that the row's form asks. Conditions: none.
-/
import Derived.Test.YtgpndlfaabhelaaGreatDoorRows
import Derived.JoinedOf
namespace Go.Proofs.YtgpndlfaabhelaaGreatDoor.runLong
open Go

theorem fact9 : (Rows.runLongRow.inPlace == Tryz.pinned.checked.prog.inPlace 3) = true := by kernel_rfl

end Go.Proofs.YtgpndlfaabhelaaGreatDoor.runLong

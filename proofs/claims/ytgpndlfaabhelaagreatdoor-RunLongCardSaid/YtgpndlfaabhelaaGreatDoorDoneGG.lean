/-
  Closed facts that the row's form asks. Conditions: none.
-/
import Derived.Test.YtgpndlfaabhelaaGreatDoorRows
import Derived.JoinedOf
namespace Go.Proofs.YtgpndlfaabhelaaGreatDoor.runLong
open Go

theorem fact12 : (Rows.runLongRow.named == Tryz.pinned.checked.prog.varsNamed 3) = true := by kernel_rfl

end Go.Proofs.YtgpndlfaabhelaaGreatDoor.runLong

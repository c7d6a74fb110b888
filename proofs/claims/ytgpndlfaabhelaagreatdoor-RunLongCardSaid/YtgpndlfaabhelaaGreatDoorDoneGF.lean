/-
  Closed facts that the row's form asks. Conditions: none.
-/
import Derived.Test.YtgpndlfaabhelaaGreatDoorRows
import Derived.JoinedOf
import Derived.Test.YtgpndlfaabhelaaGreatDoorDoneGE
namespace Go.Proofs.YtgpndlfaabhelaaGreatDoor.runLong
open Go

theorem follows_not : Tryz.pinned.checked.prog.unfollowed 3 = true := by
  have h := fact10
  rw [beq_iff_eq] at h
  rw [← h]; rfl

theorem fact11 : (Rows.runLongRow.recurses == Tryz.pinned.checked.prog.recurses 3) = true := by
  unfold Program.recurses
  rw [follows_not]
  rfl

end Go.Proofs.YtgpndlfaabhelaaGreatDoor.runLong

/-
  The row's tie, in parts: each closed fact a theorem of its own. Conditions: none.
-/
import Derived.Test.YtgpndlfaabhelaaGreatDoorLaidA
namespace Go.Proofs.YtgpndlfaabhelaaGreatDoor
open Go

theorem tieN : varsNamedLaterB Tryz.prog (varsId Tryz.prog) tied = true := by kernel_rfl

end Go.Proofs.YtgpndlfaabhelaaGreatDoor

/-
  An input, and a world that fits. Conditions: none.
-/
import Derived.Test.YtgpndlfaabhelaaGreatDoorRows
import Derived.ProofKit
import Derived.Deep.DeepHandedRow
import Derived.Lay
import Derived.LaidMore
namespace Go.Proofs.YtgpndlfaabhelaaGreatDoor.runLong
open Go

/-- an input -/
def inp : Array Value := #[.agg #[.int .u8 0, .int .u8 0, .int .u8 0, .int .u8 0, .int .u8 0, .int .u8 0, .int .u8 0], .int .u8 0]

noncomputable def start (os : Os) : World := (World.laidAll Tryz.prog os Rows.runLongRow.laid).forCall (fun _ _ => 0) ⟨#[], inp, []⟩


theorem shape1 (os : Os) : (start os).variablesZipB Tryz.prog = true := by kernel_rfl

end Go.Proofs.YtgpndlfaabhelaaGreatDoor.runLong

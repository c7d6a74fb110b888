/-
  The row's tie, in parts: each closed fact a theorem of its own. Conditions: none.
-/
import Derived.Test.YtgpndlfaabhelaaGreatDoorLaidA
namespace Go.Proofs.YtgpndlfaabhelaaGreatDoor
open Go

theorem tieR : ∀ os tape, doorLeaves Tryz.prog 400 8 300 tied os tape = some (tied.filter fun x => x.2.handleName?.isNone, (funcsListed tied).map (·.2.funcsOut)) := fun _ _ => by kernel_rfl

end Go.Proofs.YtgpndlfaabhelaaGreatDoor

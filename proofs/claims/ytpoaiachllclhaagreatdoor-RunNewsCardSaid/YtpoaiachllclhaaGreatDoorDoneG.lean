/-
  The closed facts that the row's form asks, put together. Conditions: none.
-/
import Derived.Test.YtpoaiachllclhaaGreatDoorDoneF
import Derived.Test.YtpoaiachllclhaaGreatDoorDoneGA
namespace Go.Proofs.YtpoaiachllclhaaGreatDoor.runNews
open Go

theorem and2 {a b : Bool} (ha : a = true) (hb : b = true) : (a && b) = true := by rw [ha, hb]; rfl

set_option maxRecDepth 100000 in
theorem fact1 : laidOutB Tryz.pinned.checked.prog = true := laidOut

set_option maxRecDepth 100000 in
theorem facts : joinedFacts Tryz.pinned.checked.prog 3 Tryz.f3 (OpenSpec.ofChange Rows.runNewsSpec).bare Rows.runNewsRow = true := by
  unfold joinedFacts
  exact and2 (and2 (and2 (and2 (and2 (and2 (and2 (and2 (and2 (and2 (and2 (and2 (and2 (and2 (and2 (and2 (and2 (and2 (and2 (and2 (and2 (and2 (and2 (and2 (and2 (and2 (and2 (and2 (and2 (and2 (and2 (fact0) fact1) fact2) fact3) fact4) fact5) fact6) fact7) fact8) fact9) fact10) fact11) fact12) fact13) fact14) fact15) fact16) fact17) fact18) fact19) fact20) fact21) fact22) fact23) fact24) fact25) fact26) fact27) fact28) fact29) fact30) fact31

end Go.Proofs.YtpoaiachllclhaaGreatDoor.runNews

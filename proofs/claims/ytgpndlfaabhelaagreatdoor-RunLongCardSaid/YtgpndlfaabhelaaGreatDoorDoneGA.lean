/-
  Closed facts that the row's form asks. Conditions: none.
-/
import Derived.Test.YtgpndlfaabhelaaGreatDoorRows
import Derived.JoinedOf
namespace Go.Proofs.YtgpndlfaabhelaaGreatDoor.runLong
open Go

theorem fact0 : Rows.runLongRow.wf (OpenSpec.ofChange (OpenSpec.ofChange Rows.runLongSpec).bare) = true := by kernel_rfl
theorem fact2 : mapsRowed Tryz.pinned.checked.prog = true := by kernel_rfl
theorem fact3 : Tryz.f3.params.all (Tryz.pinned.checked.prog.readableRec ·) = true := by kernel_rfl
theorem fact4 : namedTie Tryz.pinned.checked.prog Rows.runLongRow.named (OpenSpec.ofChange Rows.runLongSpec).bare.vars = true := by kernel_rfl
theorem fact5 : (Rows.runLongRow.stops == []) = true := by kernel_rfl
theorem fact6 : (Tryz.pinned.checked.prog.stops == []) = true := by kernel_rfl
theorem fact7 : (Rows.runLongRow.knobs == []) = true := by kernel_rfl
theorem fact8 : (Tryz.pinned.checked.prog.stopKnobs == []) = true := by kernel_rfl

end Go.Proofs.YtgpndlfaabhelaaGreatDoor.runLong

namespace Go.Proofs.YtgpndlfaabhelaaGreatDoor.runLong
open Go

theorem fact13 : (Rows.runLongRow.maps == (Tryz.f3.params.toList ++ (OpenSpec.ofChange Rows.runLongSpec).bare.plain.varTypes Tryz.pinned.checked.prog).any (Tryz.pinned.checked.prog.mapsRec ·)) = true := by kernel_rfl
theorem fact14 : (Rows.runLongRow.ifaces == (Tryz.f3.params.toList ++ (OpenSpec.ofChange Rows.runLongSpec).bare.plain.varTypes Tryz.pinned.checked.prog).any (Tryz.pinned.checked.prog.ifacesRec ·)) = true := by kernel_rfl
theorem fact15 : (Rows.runLongRow.mapsOut == Tryz.pinned.checked.prog.mapsAmong Tryz.f3.resultTypes.toList) = true := by kernel_rfl
theorem fact16 : (Rows.runLongRow.loops == (Tryz.f3.params.toList ++ (OpenSpec.ofChange Rows.runLongSpec).bare.plain.varTypes Tryz.pinned.checked.prog).any (Tryz.pinned.checked.prog.loopsFrom ·)) = true := by kernel_rfl
theorem fact17 : (Rows.runLongRow.wideKeys == (Tryz.f3.params.toList ++ (OpenSpec.ofChange Rows.runLongSpec).bare.plain.varTypes Tryz.pinned.checked.prog ++ Tryz.f3.resultTypes.toList).any (Tryz.pinned.checked.prog.wideKeysFrom ·)) = true := by kernel_rfl
theorem fact18 : (OpenSpec.ofChange Rows.runLongSpec).bare.vars.all (Tryz.pinned.checked.prog.varReadable ·) = true := by kernel_rfl
theorem fact19 : Tryz.f3.resultTypes.all (fun t => Tryz.pinned.checked.prog.readableRec t && decide (t < Tryz.pinned.checked.prog.types.size)) = true := by kernel_rfl
theorem fact20 : (Rows.runLongRow.ifacesOut == Tryz.f3.resultTypes.toList.any (Tryz.pinned.checked.prog.ifacesRec ·)) = true := by kernel_rfl
theorem fact21 : (Rows.runLongRow.loopsOut == Tryz.f3.resultTypes.toList.any (Tryz.pinned.checked.prog.loopsFrom ·)) = true := by kernel_rfl

end Go.Proofs.YtgpndlfaabhelaaGreatDoor.runLong

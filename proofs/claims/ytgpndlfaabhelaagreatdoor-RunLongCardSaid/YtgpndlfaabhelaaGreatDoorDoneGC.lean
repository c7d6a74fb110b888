/-
  Closed facts that the row's form asks. Conditions: none.
-/
import Derived.Test.YtgpndlfaabhelaaGreatDoorRows
import Derived.JoinedOf
namespace Go.Proofs.YtgpndlfaabhelaaGreatDoor.runLong
open Go

theorem fact22 : (Rows.runLongRow.plainKeys == Tryz.pinned.checked.prog.plainKeys) = true := by kernel_rfl
theorem fact23 : Rows.runLongRow.shortTexts.isNone = true := by kernel_rfl
theorem fact24 : Tryz.pinned.checked.prog.stopsHeard = true := by kernel_rfl
theorem fact25 : Tryz.pinned.checked.prog.mayEnter = true := by kernel_rfl
theorem fact26 : (Rows.runLongRow.lifted == Tryz.pinned.checked.prog.liftsFinal) = true := by kernel_rfl
theorem fact27 : (Tryz.pinned.checked.prog.make == some Rows.runLongRow.make) = true := by kernel_rfl
theorem fact28 : (Rows.runLongRow.kinds == (if Rows.runLongRow.domain.isEmpty then [] else Tryz.f3.params.toList.map fun t => match Tryz.pinned.checked.prog.underlying t with | some (.int k) => some k | _ => none)) = true := by kernel_rfl
theorem fact29 : (Rows.runLongRow.pinned == Rows.runLongRow.pinnedBy) = true := by kernel_rfl
theorem fact30 : (Rows.runLongRow.veiled == (Tryz.f3.params.toList ++ (OpenSpec.ofChange Rows.runLongSpec).bare.plain.varTypes Tryz.pinned.checked.prog ++ Tryz.f3.resultTypes.toList).any (Tryz.pinned.checked.prog.veiledRec ·)) = true := by kernel_rfl
theorem fact31 : Rows.runLongRow.veiledFits Tryz.pinned.checked.prog Tryz.f3.params.toList (Tryz.f3.params.toList ++ (OpenSpec.ofChange Rows.runLongSpec).bare.plain.varTypes Tryz.pinned.checked.prog ++ Tryz.f3.resultTypes.toList) = true := by kernel_rfl

end Go.Proofs.YtgpndlfaabhelaaGreatDoor.runLong

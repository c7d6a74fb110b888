/-
  Closed facts that the row's form asks. Conditions: none.
-/
import Derived.Test.YtpoaiachllclhaaGreatDoorRows
import Derived.JoinedOf
import Derived.Test.YtpoaiachllclhaaGreatDoorDoneK
namespace Go.Proofs.YtpoaiachllclhaaGreatDoor.runNews
open Go

theorem fact0 : Rows.runNewsRow.wf (OpenSpec.ofChange (OpenSpec.ofChange Rows.runNewsSpec).bare) = true := by kernel_rfl
theorem fact2 : mapsRowed Tryz.pinned.checked.prog = true := by kernel_rfl
theorem fact3 : Tryz.f3.params.all (Tryz.pinned.checked.prog.readableRec ·) = true := by kernel_rfl
theorem fact4 : namedTie Tryz.pinned.checked.prog Rows.runNewsRow.named (OpenSpec.ofChange Rows.runNewsSpec).bare.vars = true := by kernel_rfl
theorem fact5 : (Rows.runNewsRow.stops == []) = true := by kernel_rfl
theorem fact6 : (Tryz.pinned.checked.prog.stops == []) = true := by kernel_rfl
theorem fact7 : (Rows.runNewsRow.knobs == []) = true := by kernel_rfl
theorem fact8 : (Tryz.pinned.checked.prog.stopKnobs == []) = true := by kernel_rfl

end Go.Proofs.YtpoaiachllclhaaGreatDoor.runNews

namespace Go.Proofs.YtpoaiachllclhaaGreatDoor.runNews
open Go

theorem fact13 : (Rows.runNewsRow.maps == (Tryz.f3.params.toList ++ (OpenSpec.ofChange Rows.runNewsSpec).bare.plain.varTypes Tryz.pinned.checked.prog).any (Tryz.pinned.checked.prog.mapsRec ·)) = true := by kernel_rfl
theorem fact14 : (Rows.runNewsRow.ifaces == (Tryz.f3.params.toList ++ (OpenSpec.ofChange Rows.runNewsSpec).bare.plain.varTypes Tryz.pinned.checked.prog).any (Tryz.pinned.checked.prog.ifacesRec ·)) = true := by kernel_rfl
theorem fact15 : (Rows.runNewsRow.mapsOut == Tryz.pinned.checked.prog.mapsAmong Tryz.f3.resultTypes.toList) = true := by kernel_rfl
theorem fact16 : (Rows.runNewsRow.loops == (Tryz.f3.params.toList ++ (OpenSpec.ofChange Rows.runNewsSpec).bare.plain.varTypes Tryz.pinned.checked.prog).any (Tryz.pinned.checked.prog.loopsFrom ·)) = true := by kernel_rfl
theorem fact17 : (Rows.runNewsRow.wideKeys == (Tryz.f3.params.toList ++ (OpenSpec.ofChange Rows.runNewsSpec).bare.plain.varTypes Tryz.pinned.checked.prog ++ Tryz.f3.resultTypes.toList).any (Tryz.pinned.checked.prog.wideKeysFrom ·)) = true := by kernel_rfl
theorem fact18 : (OpenSpec.ofChange Rows.runNewsSpec).bare.vars.all (Tryz.pinned.checked.prog.varReadable ·) = true := by kernel_rfl
theorem fact19 : Tryz.f3.resultTypes.all (fun t => Tryz.pinned.checked.prog.readableRec t && decide (t < Tryz.pinned.checked.prog.types.size)) = true := by kernel_rfl
theorem fact20 : (Rows.runNewsRow.ifacesOut == Tryz.f3.resultTypes.toList.any (Tryz.pinned.checked.prog.ifacesRec ·)) = true := by kernel_rfl
theorem fact21 : (Rows.runNewsRow.loopsOut == Tryz.f3.resultTypes.toList.any (Tryz.pinned.checked.prog.loopsFrom ·)) = true := by kernel_rfl

end Go.Proofs.YtpoaiachllclhaaGreatDoor.runNews

namespace Go.Proofs.YtpoaiachllclhaaGreatDoor.runNews
open Go

theorem fact22 : (Rows.runNewsRow.plainKeys == Tryz.pinned.checked.prog.plainKeys) = true := by kernel_rfl
theorem fact23 : Rows.runNewsRow.shortTexts.isNone = true := by kernel_rfl
theorem fact24 : Tryz.pinned.checked.prog.stopsHeard = true := by kernel_rfl
theorem fact25 : Tryz.pinned.checked.prog.mayEnter = true := by kernel_rfl
theorem fact26 : (Rows.runNewsRow.lifted == Tryz.pinned.checked.prog.liftsFinal) = true := by kernel_rfl
theorem fact27 : (Tryz.pinned.checked.prog.make == some Rows.runNewsRow.make) = true := by kernel_rfl
theorem fact28 : (Rows.runNewsRow.kinds == (if Rows.runNewsRow.domain.isEmpty then [] else Tryz.f3.params.toList.map fun t => match Tryz.pinned.checked.prog.underlying t with | some (.int k) => some k | _ => none)) = true := by kernel_rfl
theorem fact29 : (Rows.runNewsRow.pinned == Rows.runNewsRow.pinnedBy) = true := by kernel_rfl
theorem fact30 : (Rows.runNewsRow.veiled == (Tryz.f3.params.toList ++ (OpenSpec.ofChange Rows.runNewsSpec).bare.plain.varTypes Tryz.pinned.checked.prog ++ Tryz.f3.resultTypes.toList).any (Tryz.pinned.checked.prog.veiledRec ·)) = true := by kernel_rfl
theorem fact31 : Rows.runNewsRow.veiledFits Tryz.pinned.checked.prog Tryz.f3.params.toList (Tryz.f3.params.toList ++ (OpenSpec.ofChange Rows.runNewsSpec).bare.plain.varTypes Tryz.pinned.checked.prog ++ Tryz.f3.resultTypes.toList) = true := by kernel_rfl

end Go.Proofs.YtpoaiachllclhaaGreatDoor.runNews

namespace Go.Proofs.YtpoaiachllclhaaGreatDoor.runNews
open Go

set_option maxRecDepth 100000 in
theorem fact9 : (Rows.runNewsRow.inPlace == Tryz.pinned.checked.prog.inPlace 3) = true := by
  rw [show Tryz.pinned.checked.prog = Tryz.prog from rfl]
  unfold Program.inPlace
  rw [closure_is]
  kernel_rfl

end Go.Proofs.YtpoaiachllclhaaGreatDoor.runNews

namespace Go.Proofs.YtpoaiachllclhaaGreatDoor.runNews
open Go

set_option maxRecDepth 100000 in
theorem fact10 : (Rows.runNewsRow.unfollowed == Tryz.pinned.checked.prog.unfollowed 3) = true := by
  rw [show Tryz.pinned.checked.prog = Tryz.prog from rfl]
  unfold Program.unfollowed
  rw [closure_is]
  kernel_rfl

end Go.Proofs.YtpoaiachllclhaaGreatDoor.runNews

namespace Go.Proofs.YtpoaiachllclhaaGreatDoor.runNews
open Go

theorem follows_not : Tryz.pinned.checked.prog.unfollowed 3 = true := by
  have h := fact10
  rw [beq_iff_eq] at h
  rw [← h]; rfl

theorem fact11 : (Rows.runNewsRow.recurses == Tryz.pinned.checked.prog.recurses 3) = true := by
  unfold Program.recurses
  rw [follows_not]
  rfl

end Go.Proofs.YtpoaiachllclhaaGreatDoor.runNews

namespace Go.Proofs.YtpoaiachllclhaaGreatDoor.runNews
open Go

set_option maxRecDepth 100000 in
theorem fact12 : (Rows.runNewsRow.named == Tryz.pinned.checked.prog.varsNamed 3) = true := by
  rw [show Tryz.pinned.checked.prog = Tryz.prog from rfl]
  unfold Program.varsNamed
  rw [closure_is]
  kernel_rfl

end Go.Proofs.YtpoaiachllclhaaGreatDoor.runNews

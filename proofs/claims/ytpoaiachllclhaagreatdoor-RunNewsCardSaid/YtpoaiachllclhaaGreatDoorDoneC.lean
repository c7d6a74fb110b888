/-
  An input, and a world that fits. Conditions: none.
-/
import Derived.Test.YtpoaiachllclhaaGreatDoorRows
import Derived.ProofKit
import Derived.Deep.DeepHandedRow
import Derived.Lay
import Derived.LaidMore
namespace Go.Proofs.YtpoaiachllclhaaGreatDoor.runNews
open Go

/-- an input -/
def inp : Array Value := #[.agg #[.int .i64 0, .int .i64 0, .int .i64 0, .int .i64 0, .int .i64 0, .int .i64 0, .int .i64 0]]

noncomputable def start (os : Os) : World := (World.laidAll Tryz.prog os Rows.runNewsRow.laid).forCall (fun _ _ => 0) ⟨#[], inp, []⟩


theorem shape1 (os : Os) : (start os).variablesZipB Tryz.prog = true := by kernel_rfl

end Go.Proofs.YtpoaiachllclhaaGreatDoor.runNews

namespace Go.Proofs.YtpoaiachllclhaaGreatDoor.runNews
open Go

theorem shape2 (os : Os) : ((start os).heap.toList.drop Tryz.prog.globals.size).take ((begin Tryz.prog (fun _ _ => 0) default).world.heap.size - Tryz.prog.globals.size) =
      (begin Tryz.prog (fun _ _ => 0) default).world.heap.toList.drop Tryz.prog.globals.size := by kernel_rfl
theorem startOk (os : Os) : Input.okWideB Tryz.prog (start os) 3 ⟨#[], inp, []⟩ = true := by kernel_rfl

end Go.Proofs.YtpoaiachllclhaaGreatDoor.runNews

namespace Go.Proofs.YtpoaiachllclhaaGreatDoor.runNews
open Go

theorem laid0 : (Rows.runNewsRow.laid.all fun x => x.2.handleName?.isNone) = true := by kernel_rfl
theorem laid1 (os : Os) : (World.holding Tryz.prog os ⟨#[], #[], []⟩).layFits Tryz.prog Rows.runNewsRow.laid [] = true := by kernel_rfl
theorem laid2 (os : Os) : (World.holding Tryz.prog os ⟨#[], #[], []⟩).layIfaces Tryz.prog Rows.runNewsRow.laid (World.laidAll Tryz.prog os Rows.runNewsRow.laid) = true := by kernel_rfl

end Go.Proofs.YtpoaiachllclhaaGreatDoor.runNews

namespace Go.Proofs.YtpoaiachllclhaaGreatDoor.runNews
open Go

theorem startReads (os : Os) {H : Type} (enc : TypeId × Value → H) : ∃ places, DataW.whole enc Tryz.prog (start os).memory Tryz.f3.params.toList Rows.runNewsSpec.vars false inp.toList 8 =
    some ([.agg [.lit (.int .i64 0), .lit (.int .i64 0), .lit (.int .i64 0), .lit (.int .i64 0), .lit (.int .i64 0), .lit (.int .i64 0), .lit (.int .i64 0)]], [], places) :=
  ⟨[], by kernel_rfl⟩


theorem startSized (os : Os) {H : Type} (enc : TypeId × Value → H) : (OpenSpec.ofChange Rows.runNewsSpec).bare.sizedB enc Tryz.prog Tryz.f3 false (start os).memory inp 8 = true := by kernel_rfl

end Go.Proofs.YtpoaiachllclhaaGreatDoor.runNews

/-
  The row's tie, in parts: each closed fact a theorem of its own. Conditions: none.
-/
import Derived.Test.YtpoaiachllclhaaGreatDoorRows
import Derived.LaidByTextLater
import Derived.SevenTiedAt
import Derived.LaidOnce
namespace Go.Proofs.YtpoaiachllclhaaGreatDoor
open Go

/-- what is listed, but for the pinned table -/
def tied : List (String × DataW Unit) := [("unicode/utf8.acceptRanges", Rows.laid_unicode_utf8_acceptRanges), ("strings.asciiSpace", Rows.laid_strings_asciiSpace), ("unicode.White_Space", Rows.laid_unicode_White_Space)]

theorem tieW1 : Tryz.prog.worded (varsWordLater true) = true := by kernel_rfl
theorem tieW2 : Tryz.prog.worded (varsWordLater !true) = false := by kernel_rfl
theorem tieW3 : Tryz.prog.worded rootWordLater = true := by kernel_rfl
theorem tieK : tied.map (fun x => Tryz.prog.kindOfLater x.1) = ([.data, .data, .listed] : List LaidKind).map some := by kernel_rfl
theorem tieG : (Tryz.prog.funcNamed "gosem.cut.vars").isSome = true := by kernel_rfl
theorem tieP : (tied.all fun x => x.2.handleName?.isNone) = true := by kernel_rfl

end Go.Proofs.YtpoaiachllclhaaGreatDoor

namespace Go.Proofs.YtpoaiachllclhaaGreatDoor
open Go

theorem tieN : varsNamedLaterB Tryz.prog (varsId Tryz.prog) tied = true := by kernel_rfl

end Go.Proofs.YtpoaiachllclhaaGreatDoor

namespace Go.Proofs.YtpoaiachllclhaaGreatDoor
open Go

theorem tieR : ∀ os tape, doorLeaves Tryz.prog 400 8 300 tied os tape = some (tied.filter fun x => x.2.handleName?.isNone, (funcsListed tied).map (·.2.funcsOut)) := fun _ _ => by kernel_rfl

end Go.Proofs.YtpoaiachllclhaaGreatDoor

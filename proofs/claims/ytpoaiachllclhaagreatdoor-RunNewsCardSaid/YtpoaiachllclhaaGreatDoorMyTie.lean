/-
  The row's tie, put together. Conditions: none.
-/
import Derived.Test.YtpoaiachllclhaaGreatDoorLaidA
namespace Go.Proofs.YtpoaiachllclhaaGreatDoor
open Go

theorem pinFirst : Tryz.pinned.checked.prog.pinnedFits "unicode/utf8.first" = true := by kernel_rfl
theorem ownSafe : Tryz.pinned.checked.prog.headLifts.contains "ownunsafe" = false := by kernel_rfl
theorem fitsAll : Tryz.pinned.checked.prog.listedFits [("unicode/utf8.first", Rows.laid_unicode_utf8_first), ("unicode/utf8.acceptRanges", Rows.laid_unicode_utf8_acceptRanges), ("strings.asciiSpace", Rows.laid_strings_asciiSpace), ("unicode.White_Space", Rows.laid_unicode_White_Space)] = true := by
  unfold Program.listedFits
  rw [ownSafe]
  kernel_rfl
theorem tieAll : Tryz.prog.laidByTextLater tied [.data, .data, .listed] true :=
  Program.laidByTextLater_by_one 400 8 300 tieW1 tieW2 tieW3 tieK tieG tieN tieR
theorem rowTie : Rows.runNewsRow.laidByTextAt .later Tryz.pinned [.pinned, .data, .data, .listed] true :=
  OpenClaim.laidByTextAt_pinned rfl rfl tieAll rfl rfl rfl rfl (fun y hy _e => by
    simp only [Rows.runNewsRow, List.zip_cons_cons, List.zip_nil_right, List.mem_cons, List.mem_nil_iff, or_false] at hy
    rcases hy with rfl | rfl | rfl | rfl
    · exact ⟨pinFirst, by kernel_rfl⟩
    · cases _e
    · cases _e
    · cases _e) fitsAll

end Go.Proofs.YtpoaiachllclhaaGreatDoor

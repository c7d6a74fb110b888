/-
  The types' rows are laid out, in parts. Conditions: none.
-/
import Derived.Test.YtpoaiachllclhaaGreatDoorProg
import Derived.KernelRfl
import GoSem.ClaimDataLaid
namespace Go.Proofs.YtpoaiachllclhaaGreatDoor.runNews
open Go

theorem rows0 : (List.range' 0 111).all (rowFine Tryz.prog) = true := by kernel_rfl
theorem rows1 : (List.range' 111 111).all (rowFine Tryz.prog) = true := by kernel_rfl
theorem rows2 : (List.range' 222 111).all (rowFine Tryz.prog) = true := by kernel_rfl
theorem rows3 : (List.range' 333 111).all (rowFine Tryz.prog) = true := by kernel_rfl
theorem rows4 : (List.range' 444 111).all (rowFine Tryz.prog) = true := by kernel_rfl
theorem rows5 : (List.range' 555 109).all (rowFine Tryz.prog) = true := by kernel_rfl
theorem typesSize : Tryz.prog.types.size = 664 := by kernel_rfl
theorem globalsFine : Tryz.prog.globals.all (fun g => decide (g.type < Tryz.prog.types.size)) = true := by kernel_rfl
theorem paramsFine : Tryz.prog.funcs.all (fun f => f.params.all fun t => decide (t < Tryz.prog.types.size)) = true := by kernel_rfl

theorem part_of {p : Nat → Bool} {a k : Nat} (h : (List.range' a k).all p = true) {t : Nat} (h1 : a ≤ t) (h2 : t < a + k) : p t = true :=
  List.all_eq_true.1 h t (by rw [List.mem_range']; exact ⟨t - a, by omega, by omega⟩)

theorem laidOut : laidOutB Tryz.prog = true := by
  unfold laidOutB
  rw [Bool.and_eq_true, Bool.and_eq_true]
  refine ⟨⟨List.all_eq_true.2 fun t ht => ?_, globalsFine⟩, paramsFine⟩
  rw [typesSize] at ht
  have ht := List.mem_range.1 ht
  by_cases h0 : t < 111
  · exact part_of rows0 (by omega) (by omega)
  by_cases h1 : t < 222
  · exact part_of rows1 (by omega) (by omega)
  by_cases h2 : t < 333
  · exact part_of rows2 (by omega) (by omega)
  by_cases h3 : t < 444
  · exact part_of rows3 (by omega) (by omega)
  by_cases h4 : t < 555
  · exact part_of rows4 (by omega) (by omega)
  exact part_of rows5 (by omega) (by omega)

end Go.Proofs.YtpoaiachllclhaaGreatDoor.runNews

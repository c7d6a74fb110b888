/-
  The types' rows are laid out, in parts. Conditions: none.
-/
import Derived.Test.YtgpndlfaabhelaaGreatDoorProg
import Derived.KernelRfl
import GoSem.ClaimDataLaid
namespace Go.Proofs.YtgpndlfaabhelaaGreatDoor.runLong
open Go

theorem rows0 : (List.range' 0 112).all (rowFine Tryz.prog) = true := by kernel_rfl
theorem rows1 : (List.range' 112 112).all (rowFine Tryz.prog) = true := by kernel_rfl
theorem rows2 : (List.range' 224 112).all (rowFine Tryz.prog) = true := by kernel_rfl
theorem rows3 : (List.range' 336 112).all (rowFine Tryz.prog) = true := by kernel_rfl
theorem rows4 : (List.range' 448 112).all (rowFine Tryz.prog) = true := by kernel_rfl
theorem rows5 : (List.range' 560 105).all (rowFine Tryz.prog) = true := by kernel_rfl
theorem typesSize : Tryz.prog.types.size = 665 := by kernel_rfl
theorem globalsFine : Tryz.prog.globals.all (fun g => decide (g.type < Tryz.prog.types.size)) = true := by kernel_rfl
theorem paramsFine : Tryz.prog.funcs.all (fun f => f.params.all fun t => decide (t < Tryz.prog.types.size)) = true := by kernel_rfl

theorem part_of {p : Nat → Bool} {a k : Nat} (h : (List.range' a k).all p = true) {t : Nat} (h1 : a ≤ t) (h2 : t < a + k) : p t = true :=
  List.all_eq_true.1 h t (by rw [List.mem_range']; exact ⟨t - a, by omega, by omega⟩)

theorem laidOut : laidOutB Tryz.prog = true := by
  unfold laidOutB
  rw [Bool.and_eq_true, Bool.and_eq_true]
  refine ⟨⟨List.all_eq_true.2 fun t ht => ?_, globalsFine⟩, paramsFine⟩
  rw [typesSize] at ht
  have ht := List.mem_range.1 ht
  by_cases h0 : t < 112
  · exact part_of rows0 (by omega) (by omega)
  by_cases h1 : t < 224
  · exact part_of rows1 (by omega) (by omega)
  by_cases h2 : t < 336
  · exact part_of rows2 (by omega) (by omega)
  by_cases h3 : t < 448
  · exact part_of rows3 (by omega) (by omega)
  by_cases h4 : t < 560
  · exact part_of rows4 (by omega) (by omega)
  exact part_of rows5 (by omega) (by omega)

end Go.Proofs.YtgpndlfaabhelaaGreatDoor.runLong

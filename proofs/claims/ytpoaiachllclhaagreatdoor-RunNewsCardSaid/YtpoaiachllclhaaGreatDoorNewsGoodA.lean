/-
  Limits that are as they may be, descriptors' one by one: what the evaluator answers, in parts. Conditions: none.
-/
import Derived.Test.YtpoaiachllclhaaGreatDoorNewsSet
namespace Go.Proofs.YtpoaiachllclhaaGreatDoor
open Go Go.Ideal

theorem good1 (fx : Nat → Option Obj) : newsOk fx (limGood 1) = true := by kernel_rfl
theorem good2 (fx : Nat → Option Obj) : newsOk fx (limGood 2) = true := by kernel_rfl
theorem good3 (fx : Nat → Option Obj) : newsOk fx (limGood 3) = true := by kernel_rfl
theorem good4 (fx : Nat → Option Obj) : newsOk fx (limGood 4) = true := by kernel_rfl
theorem good5 (fx : Nat → Option Obj) : newsOk fx (limGood 5) = true := by kernel_rfl
theorem good6 (fx : Nat → Option Obj) : newsOk fx (limGood 6) = true := by kernel_rfl
theorem good7 (fx : Nat → Option Obj) : newsOk fx (limGood 7) = true := by kernel_rfl
theorem good8 (fx : Nat → Option Obj) : newsOk fx (limGood 8) = true := by kernel_rfl
theorem good9 (fx : Nat → Option Obj) : newsOk fx (limGood 9) = true := by kernel_rfl
theorem good10 (fx : Nat → Option Obj) : newsOk fx (limGood 10) = true := by kernel_rfl
theorem good11 (fx : Nat → Option Obj) : newsOk fx (limGood 11) = true := by kernel_rfl
theorem good12 (fx : Nat → Option Obj) : newsOk fx (limGood 12) = true := by kernel_rfl
theorem good13 (fx : Nat → Option Obj) : newsOk fx (limGood 13) = true := by kernel_rfl
theorem good14 (fx : Nat → Option Obj) : newsOk fx (limGood 14) = true := by kernel_rfl
theorem good15 (fx : Nat → Option Obj) : newsOk fx (limGood 15) = true := by kernel_rfl
theorem good16 (fx : Nat → Option Obj) : newsOk fx (limGood 16) = true := by kernel_rfl

end Go.Proofs.YtpoaiachllclhaaGreatDoor

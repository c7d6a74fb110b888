/-
  Limits that are as they may be, descriptors' one by one: what the evaluator answers, in parts. Conditions: none.
-/
import Derived.Test.YtpoaiachllclhaaGreatDoorNewsSet
namespace Go.Proofs.YtpoaiachllclhaaGreatDoor
open Go Go.Ideal

theorem good49 (fx : Nat → Option Obj) : newsOk fx (limGood 49) = true := by kernel_rfl
theorem good50 (fx : Nat → Option Obj) : newsOk fx (limGood 50) = true := by kernel_rfl
theorem good51 (fx : Nat → Option Obj) : newsOk fx (limGood 51) = true := by kernel_rfl
theorem good52 (fx : Nat → Option Obj) : newsOk fx (limGood 52) = true := by kernel_rfl
theorem good53 (fx : Nat → Option Obj) : newsOk fx (limGood 53) = true := by kernel_rfl
theorem good54 (fx : Nat → Option Obj) : newsOk fx (limGood 54) = true := by kernel_rfl
theorem good55 (fx : Nat → Option Obj) : newsOk fx (limGood 55) = true := by kernel_rfl
theorem good56 (fx : Nat → Option Obj) : newsOk fx (limGood 56) = true := by kernel_rfl
theorem good57 (fx : Nat → Option Obj) : newsOk fx (limGood 57) = true := by kernel_rfl
theorem good58 (fx : Nat → Option Obj) : newsOk fx (limGood 58) = true := by kernel_rfl
theorem good59 (fx : Nat → Option Obj) : newsOk fx (limGood 59) = true := by kernel_rfl
theorem good60 (fx : Nat → Option Obj) : newsOk fx (limGood 60) = true := by kernel_rfl
theorem good61 (fx : Nat → Option Obj) : newsOk fx (limGood 61) = true := by kernel_rfl
theorem good62 (fx : Nat → Option Obj) : newsOk fx (limGood 62) = true := by kernel_rfl
theorem good63 (fx : Nat → Option Obj) : newsOk fx (limGood 63) = true := by kernel_rfl
theorem good64 (fx : Nat → Option Obj) : newsOk fx (limGood 64) = true := by kernel_rfl

end Go.Proofs.YtpoaiachllclhaaGreatDoor

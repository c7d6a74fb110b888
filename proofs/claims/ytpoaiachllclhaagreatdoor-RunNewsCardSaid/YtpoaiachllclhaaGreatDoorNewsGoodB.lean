/-
  Limits that are as they may be, descriptors' one by one: what the evaluator answers, in parts. Conditions: none.
-/
import Derived.Test.YtpoaiachllclhaaGreatDoorNewsSet
namespace Go.Proofs.YtpoaiachllclhaaGreatDoor
open Go Go.Ideal

theorem good17 (fx : Nat → Option Obj) : newsOk fx (limGood 17) = true := by kernel_rfl
theorem good18 (fx : Nat → Option Obj) : newsOk fx (limGood 18) = true := by kernel_rfl
theorem good19 (fx : Nat → Option Obj) : newsOk fx (limGood 19) = true := by kernel_rfl
theorem good20 (fx : Nat → Option Obj) : newsOk fx (limGood 20) = true := by kernel_rfl
theorem good21 (fx : Nat → Option Obj) : newsOk fx (limGood 21) = true := by kernel_rfl
theorem good22 (fx : Nat → Option Obj) : newsOk fx (limGood 22) = true := by kernel_rfl
theorem good23 (fx : Nat → Option Obj) : newsOk fx (limGood 23) = true := by kernel_rfl
theorem good24 (fx : Nat → Option Obj) : newsOk fx (limGood 24) = true := by kernel_rfl
theorem good25 (fx : Nat → Option Obj) : newsOk fx (limGood 25) = true := by kernel_rfl
theorem good26 (fx : Nat → Option Obj) : newsOk fx (limGood 26) = true := by kernel_rfl
theorem good27 (fx : Nat → Option Obj) : newsOk fx (limGood 27) = true := by kernel_rfl
theorem good28 (fx : Nat → Option Obj) : newsOk fx (limGood 28) = true := by kernel_rfl
theorem good29 (fx : Nat → Option Obj) : newsOk fx (limGood 29) = true := by kernel_rfl
theorem good30 (fx : Nat → Option Obj) : newsOk fx (limGood 30) = true := by kernel_rfl
theorem good31 (fx : Nat → Option Obj) : newsOk fx (limGood 31) = true := by kernel_rfl
theorem good32 (fx : Nat → Option Obj) : newsOk fx (limGood 32) = true := by kernel_rfl

end Go.Proofs.YtpoaiachllclhaaGreatDoor

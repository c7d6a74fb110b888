/-
  Limits that are as they may be, descriptors' one by one: what the evaluator answers, in parts. Conditions: none.
-/
import Derived.Test.YtpoaiachllclhaaGreatDoorNewsSet
namespace Go.Proofs.YtpoaiachllclhaaGreatDoor
open Go Go.Ideal

theorem good33 (fx : Nat → Option Obj) : newsOk fx (limGood 33) = true := by kernel_rfl
theorem good34 (fx : Nat → Option Obj) : newsOk fx (limGood 34) = true := by kernel_rfl
theorem good35 (fx : Nat → Option Obj) : newsOk fx (limGood 35) = true := by kernel_rfl
theorem good36 (fx : Nat → Option Obj) : newsOk fx (limGood 36) = true := by kernel_rfl
theorem good37 (fx : Nat → Option Obj) : newsOk fx (limGood 37) = true := by kernel_rfl
theorem good38 (fx : Nat → Option Obj) : newsOk fx (limGood 38) = true := by kernel_rfl
theorem good39 (fx : Nat → Option Obj) : newsOk fx (limGood 39) = true := by kernel_rfl
theorem good40 (fx : Nat → Option Obj) : newsOk fx (limGood 40) = true := by kernel_rfl
theorem good41 (fx : Nat → Option Obj) : newsOk fx (limGood 41) = true := by kernel_rfl
theorem good42 (fx : Nat → Option Obj) : newsOk fx (limGood 42) = true := by kernel_rfl
theorem good43 (fx : Nat → Option Obj) : newsOk fx (limGood 43) = true := by kernel_rfl
theorem good44 (fx : Nat → Option Obj) : newsOk fx (limGood 44) = true := by kernel_rfl
theorem good45 (fx : Nat → Option Obj) : newsOk fx (limGood 45) = true := by kernel_rfl
theorem good46 (fx : Nat → Option Obj) : newsOk fx (limGood 46) = true := by kernel_rfl
theorem good47 (fx : Nat → Option Obj) : newsOk fx (limGood 47) = true := by kernel_rfl
theorem good48 (fx : Nat → Option Obj) : newsOk fx (limGood 48) = true := by kernel_rfl

end Go.Proofs.YtpoaiachllclhaaGreatDoor

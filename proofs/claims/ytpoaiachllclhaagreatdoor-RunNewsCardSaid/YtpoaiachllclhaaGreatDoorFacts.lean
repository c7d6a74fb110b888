/-
  Two facts of the program: it draws its orders; no function bears a certain name. Conditions: none.
-/
import Derived.Test.YtpoaiachllclhaaGreatDoorProg
import Derived.KernelRfl
namespace Go.Proofs.YtpoaiachllclhaaGreatDoor
open Go

theorem mixed : Tryz.prog.follows .mixedOrders = true := by kernel_rfl

theorem names_all : Tryz.prog.funcs.toList.all (fun fn => !(fn.name == "runtime.NumGoroutine")) = true := by kernel_rfl

theorem names (f : Nat) (fn : Func) (h : Tryz.prog.funcs[f]? = some fn) : (fn.name == "runtime.NumGoroutine") = false := by
  have := List.all_eq_true.1 names_all fn (by rw [← Array.getElem?_toList] at h; exact List.mem_of_getElem? h)
  simpa using this

end Go.Proofs.YtpoaiachllclhaaGreatDoor

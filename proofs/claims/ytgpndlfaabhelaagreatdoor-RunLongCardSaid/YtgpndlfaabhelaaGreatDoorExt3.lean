/-
  The fields of a text, as the kit's law has them. Conditions: none.
-/
import Derived.Test.YtgpndlfaabhelaaGreatDoorExt2
import Derived.Lib.Fields
namespace Go.Ideal
open Go

theorem isSp_eq (b : UInt8) : isSp b = Lib.isSp b := by
  have h : ∀ i : Fin 256, isSp (UInt8.ofNat i.val) = Lib.isSp (UInt8.ofNat i.val) := by decide +kernel
  have := h ⟨b.toNat, b.toNat_lt⟩
  simpa using this

theorem fieldsGo_eq : ∀ (l cur : List UInt8), fieldsGo l cur = Lib.fieldsGo cur l := by
  intro l
  induction l with
  | nil => intro cur; cases cur <;> simp [fieldsGo, Lib.fieldsGo]
  | cons b l ih =>
    intro cur
    simp only [fieldsGo, Lib.fieldsGo, isSp_eq]
    cases Lib.isSp b <;> cases cur <;> simp [ih]

end Go.Ideal

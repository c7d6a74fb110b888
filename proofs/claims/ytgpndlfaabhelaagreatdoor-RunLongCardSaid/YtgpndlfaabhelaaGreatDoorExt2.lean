/-
  A new block of strings. Conditions: none.
-/
import Derived.Test.YtgpndlfaabhelaaGreatDoorExt
namespace Go.Ideal
open Go

section ext
variable {P : Program} {Γ : Cx} {ρ : Rho} {s s' : HS} {w : World}

theorem newStrings_ok {t t' : TypeId} {l : List (List UInt8)} {v : Value} (h : newStrings t l s = some (v, s')) (pre : Pre Γ ρ s w s') :
    ∃ ρ', VR ρ' v (.slice (some ⟨w.heap.size, 0, none⟩) l.length l.length) ∧ Stp Γ ρ s w ρ' s' (w.alloc (.cells (l.map fun x => Value.string ⟨x.toArray⟩).toArray t')) := by
  simp only [newStrings, bind_eq] at h
  obtain ⟨a, s1, h1, h⟩ := h
  rw [force_eq, pure_eq, Prod.mk.injEq] at h
  obtain ⟨rfl, rfl⟩ := h
  have hv : VRs ρ (l.map fun x => Value.string ⟨x.toArray⟩) (l.map fun x => Value.string ⟨x.toArray⟩).toArray.toList := by
    refine VRs.refl_of fun u hu => ?_
    simp only [List.mem_map] at hu
    obtain ⟨x, -, rfl⟩ := hu
    exact .str _
  obtain ⟨ρ', rfl, g1, g2, g3⟩ := newTight (P := default) (e' := t') (arr := (l.map fun x => Value.string ⟨x.toArray⟩).toArray) h1 pre hv
  exact ⟨ρ', VR.slAt g2, g3⟩

end ext
end Go.Ideal

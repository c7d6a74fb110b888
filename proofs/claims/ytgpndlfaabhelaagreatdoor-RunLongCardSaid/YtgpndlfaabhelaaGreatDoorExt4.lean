/-
  Functions that are not run by their text: the fields of a text; a text that is split. Conditions: none.
-/
import Derived.Test.YtgpndlfaabhelaaGreatDoorExt3
namespace Go.Ideal
open Go

section ext
variable {P : Program} {Γ : Cx}

/-- the function that finds the fields of a text -/
structure IsFields (P : Program) (Γ : Cx) (f : Nat) : Prop where
  enters : ∀ args w, (callFunc f args).run P w = .ok (.enter f args) w
  calls : ∃ t : TypeId, ∀ (s : ByteArray) (w : World), s.size < 4294967281 → (∀ (j : Nat) b, s.data.toList[j]? = some b → b.toNat < 128) → (∀ b o, Γ.fix b = some o → w.heap[b]? = some o) →
    Calls P f #[.string s] w fun e w' => e = .returned (.slice (some ⟨w.heap.size, 0, none⟩) (Lib.fields s.data.toList).length (Lib.fields s.data.toList).length) ∧
      w' = w.alloc (.cells ((Lib.fields s.data.toList).map fun l => Value.string ⟨l.toArray⟩).toArray t)

theorem ascii_mem {l : List UInt8} (h : ascii l = true) : ∀ (j : Nat) b, l[j]? = some b → b.toNat < 128 := fun j b hb => by
  have := List.all_eq_true.1 h b (List.mem_of_getElem? hb)
  have h2 : b.toNat ≤ 127 := Nat.le_of_ble_eq_true this
  exact Nat.lt_of_le_of_lt h2 (by decide)

theorem fields_ok {f : Nat} (I : IsFields P Γ f) {ρ : Rho} {as as' : List Value} {v : Value} {s s' : HS} {w : World} (hv : extV .fields Γ as s = some (v, s')) (pre : Pre Γ ρ s w s') (ha : VRs ρ as as') {F : Fence} (hF : Wide F) :
    Upon P Γ F ρ s w v s' ((callFunc f as'.toArray).run P w) := by
  simp only [extV] at hv
  split at hv
  · rename_i x
    simp only [have_eq, need_eq, Bool.and_eq_true] at hv
    obtain ⟨l, hl, ⟨hasc, hlen⟩, hv⟩ := hv
    obtain ⟨z, rfl, rfl⟩ := strV_eq hl
    obtain ⟨x', r', rfl, hx, hr⟩ := ha.ex
    obtain rfl := hr.nil_ex
    cases hx
    have hlen := Nat.le_of_ble_eq_true hlen
    have hz : z.data.toList.length = z.size := rfl
    obtain ⟨t, hc⟩ := I.calls
    rw [I.enters]
    show CallsIn F 0 P f #[.string z] w (Res Γ ρ s w v s')
    refine hF.calls ?_
    have := hc z w (by omega) (ascii_mem hasc) fun b o hb => (pre.fix b o hb).1
    have h9 : CallsIn Fence.wide 0 P f #[.string z] w _ := callsIn_wide.2 this
    refine CallsIn.mono h9 ?_
    rintro e w' ⟨rfl, rfl⟩
    rw [fieldsGo_eq] at hv
    obtain ⟨ρ', h1, h2⟩ := newStrings_ok (t' := t) hv pre
    exact ⟨_, ρ', rfl, h1, h2⟩
  · simp [EM.fail] at hv

end ext
end Go.Ideal

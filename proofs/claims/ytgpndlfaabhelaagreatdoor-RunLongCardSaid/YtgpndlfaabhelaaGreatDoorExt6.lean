/-
  All functions that are not run by their text. Conditions: none.
-/
import Derived.Test.YtgpndlfaabhelaaGreatDoorExt5
namespace Go.Ideal
open Go

section ext
variable {P : Program} {Γ : Cx}

/-- the function that splits a text -/
structure IsSplit (P : Program) (Γ : Cx) (f : Nat) : Prop where
  enters : ∀ args w, (callFunc f args).run P w = .ok (.enter f args) w
  calls : ∃ t : TypeId, ∀ (s sep : ByteArray) (w : World), s.size < 4294967281 → 1 ≤ sep.size → (∀ b o, Γ.fix b = some o → w.heap[b]? = some o) →
    Calls P f #[.string s, .string sep] w fun e w' => e = .returned (.slice (some ⟨w.heap.size, 0, none⟩) (Lib.countB s sep + 1) (Lib.countB s sep + 1)) ∧
      w' = w.alloc (.cells ((Lib.splitB sep 0 (Lib.countB s sep) s).map Value.string).toArray t)

theorem oneByte_eq {l : List UInt8} {c : Nat} (h : oneByte l = some c) : ∃ b : UInt8, l = [b] ∧ c = b.toNat := by
  unfold oneByte at h
  split at h
  · rename_i b
    exact ⟨b, rfl, (Option.some.inj h).symm⟩
  · cases h

theorem split_ok {f : Nat} (I : IsSplit P Γ f) {ρ : Rho} {as as' : List Value} {v : Value} {s s' : HS} {w : World} (hv : extV .split Γ as s = some (v, s')) (pre : Pre Γ ρ s w s') (ha : VRs ρ as as') {F : Fence} (hF : Wide F) :
    Upon P Γ F ρ s w v s' ((callFunc f as'.toArray).run P w) := by
  simp only [extV] at hv
  split at hv
  · rename_i x y
    simp only [have_eq, need_eq] at hv
    obtain ⟨l, hl, q, hq, c, hc, hlen, hv⟩ := hv
    obtain ⟨z, rfl, rfl⟩ := strV_eq hl
    obtain ⟨y, rfl, rfl⟩ := strV_eq hq
    obtain ⟨b, hb, rfl⟩ := oneByte_eq hc
    obtain ⟨x', r', rfl, hx, hr⟩ := ha.ex
    obtain ⟨y', r', rfl, hy, hr⟩ := hr.ex
    obtain rfl := hr.nil_ex
    cases hx
    cases hy
    have hlen := Nat.le_of_ble_eq_true hlen
    have hz : z.data.toList.length = z.size := rfl
    have hy1 : y.data.toList.length = y.size := rfl
    obtain ⟨t, hk⟩ := I.calls
    rw [I.enters]
    show CallsIn F 0 P f #[.string z, .string y] w (Res Γ ρ s w v s')
    refine hF.calls ?_
    have := hk z y w (by omega) (by rw [← hy1, hb]; simp) fun b o hb => (pre.fix b o hb).1
    have h9 : CallsIn Fence.wide 0 P f #[.string z, .string y] w _ := callsIn_wide.2 this
    refine CallsIn.mono h9 ?_
    rintro e w' ⟨rfl, rfl⟩
    obtain ⟨g1, g2⟩ := splitB_eq z y b hb
    obtain ⟨ρ', h1, h2⟩ := newStrings_ok (t' := t) hv pre
    rw [g1, ← g2]
    exact ⟨_, ρ', rfl, h1, h2⟩
  · simp [EM.fail] at hv

/-- what is asked of one function that is not run by its text -/
def ExtAt (P : Program) (Γ : Cx) (f : Nat) (e : Ext) : Prop := ∀ {as as' v s s' ρ w}, extV e Γ as s = some (v, s') → WF s → Pre Γ ρ s w s' → VRs ρ as as' → ∀ F, Wide F → Upon P Γ F ρ s w v s' ((callFunc f as'.toArray).run P w)

theorem extOk_of (h : ∀ f e, Γ.ext f = some e → (e = .indexByte ∧ ∃ fn, IsIndex P f fn) ∨ (e = .fields ∧ IsFields P Γ f) ∨ (e = .split ∧ IsSplit P Γ f) ∨ ExtAt P Γ f e) : ExtOk P Γ := by
  intro f e he as as' v s s' ρ w hv wf pre ha F hF
  rcases h f e he with ⟨rfl, h⟩ | ⟨rfl, I⟩ | ⟨rfl, I⟩ | h
  · obtain ⟨fn, I⟩ := h
    exact index_ok I hv pre ha
  · exact fields_ok I hv pre ha hF
  · exact split_ok I hv pre ha hF
  · exact h hv wf pre ha F hF

end ext
end Go.Ideal

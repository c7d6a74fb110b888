/-
  A closed call: what the evaluator answers, the program answers, from every world. Conditions: none.
-/
import Derived.Test.YtpoaiachllclhaaGreatDoorDraw5
namespace Go.Ideal
open Go

section run
variable {P : Program} {Γ : Cx}

theorem boot_wf (n : Nat) (hn : n ≤ 200000) : WF (boot n []) := by
  refine ⟨Nat.le_refl _, hn, fun _ _ => Tr.get_e _, fun i x c h => ?_, fun k hk => ?_⟩
  · have h : (Tr.e : Tr IObj).get i = some x := h
    rw [Tr.get_e] at h; cases h
  · rcases hk with h | h <;> exact absurd (Tr.get_e k) h

/-- what is asked of a closed call's end: it answers true; nothing that was there is another -/
def Keeps (w : World) (b : Bool) : Ending → World → Prop := fun e w' => e = .returned (.bool b) ∧ w'.os = w.os ∧ w'.tape = w.tape ∧ w'.output = w.output ∧ w.heap.size ≤ w'.heap.size ∧ ∀ i, i < w.heap.size → w'.heap[i]? = w.heap[i]?

theorem closed_call (C : CxOk P Γ) (hm : P.follows .mixedOrders = true) (E : ExtOk P Γ) (hn : ∀ (f : Nat) (fn : Func), P.funcs[f]? = some fn → (fn.name == "runtime.NumGoroutine") = false)
    {rounds k f n : Nat} {b : Bool} {s' : HS} (hs : n ≤ 200000) (hbase : ∀ i, Γ.base i = none) (he : Γ.ext f = none) (h : callF Γ rounds k true f [] (boot n []) = some (.bool b, s')) (w : World) (hfx : ∀ b o, Γ.fix b = some o → w.heap[b]? = some o) : Calls P f #[] w (Keeps w b) := by
  have K := callF_ok C (drawOk C hm) E hn rounds k
  have inv : Inv Γ ⟨fun _ => none, Γ.σ⟩ (boot n []).h w := ⟨fun i x rb _ hr => (by cases hr), fun i j x y rb rb' _ _ _ _ _ hr => (by cases hr), fun i rb hr => (by cases hr)⟩
  obtain ⟨-, hc⟩ := K.fn he h (boot_wf n hs) (w := w) (ρ := ⟨fun _ => none, Γ.σ⟩) ⟨inv, fun _ _ _ => rfl, ⟨rfl, fun i rb hi => by rw [hbase] at hi; cases hi⟩, fun b o hb => ⟨hfx b o hb, fun ⟨j, x, rb, hj, _⟩ => (by have hj : (Tr.e : Tr IObj).get j = some x := hj; rw [Tr.get_e] at hj; cases hj)⟩⟩ (VRs.nil _)
  refine callsIn_wide.1 (CallsIn.mono (hc Fence.wide wide_wide) ?_)
  rintro e w' ⟨v', ρ', rfl, hv, st⟩
  cases hv
  refine ⟨rfl, st.os, st.tape, st.out, st.size, fun i hi => st.frame i hi ?_⟩
  rintro ⟨j, x, rb, hj, -⟩
  have hj : (Tr.e : Tr IObj).get j = some x := hj
  rw [Tr.get_e] at hj; cases hj

/-- the call's answer alone, of a run by the kernel -/
noncomputable def answers (Γ : Cx) (rounds k f n : Nat) : Bool := match callF Γ rounds k true f [] (boot n []) with
  | some (.bool b, _) => b
  | _ => false

theorem closed_true (C : CxOk P Γ) (hm : P.follows .mixedOrders = true) (E : ExtOk P Γ) (hn : ∀ (f : Nat) (fn : Func), P.funcs[f]? = some fn → (fn.name == "runtime.NumGoroutine") = false)
    {rounds k f n : Nat} (hs : n ≤ 200000) (hbase : ∀ i, Γ.base i = none) (he : Γ.ext f = none) (h : answers Γ rounds k f n = true) (w : World) (hfx : ∀ b o, Γ.fix b = some o → w.heap[b]? = some o) : Calls P f #[] w (Keeps w true) := by
  unfold answers at h
  split at h
  · rename_i b s' hb
    subst h
    exact closed_call C hm E hn hs hbase he hb w hfx
  · cases h

end run
end Go.Ideal

/-
  Calls one behind the other, of which several values are kept: what is known of a world that the evaluator has gone through. Conditions: none.
-/
import Derived.Test.YtpoaiachllclhaaGreatDoorTop
namespace Go.Ideal
open Go Go.RowKit

section top
variable {P : Program} {Γ : Cx}

/-- the evaluator's state is the world's: what may be written lies from block M on, what is there below block N; the values vs are us -/
structure KnownL (Γ : Cx) (s : HS) (vs : List Value) (M N : Nat) (w : World) (us : List Value) : Prop where
  wf : WF s
  ex : ∃ ρ : Rho, VRs ρ vs us ∧ Inv Γ ρ s.h w ∧ (∀ i rb, ρ i = some rb → i < s.nx) ∧ (∀ b, Img ρ s.h b → M ≤ b) ∧ (∀ b, ImgL ρ s.h b → b < N) ∧ NameOk Γ ρ

theorem KnownL.keep {s : HS} {vs us : List Value} {M N : Nat} {w w' : World} (h : KnownL Γ s vs M N w us) (hb : ∀ b, b < N → w'.heap[b]? = w.heap[b]?) : KnownL Γ s vs M N w' us := by
  obtain ⟨wf, ρ, h1, h2, h3, h4, h5, h6⟩ := h
  exact ⟨wf, ρ, h1, ⟨fun j y rb hj hr => (h2.obj j y rb hj hr).of_heap_g fun hg hl => hb _ (h5 _ ⟨j, y, rb, hj, hl, hr, hg, rfl⟩), h2.apart, h2.lim⟩, h3, h4, h5, h6⟩

theorem KnownL.low {s : HS} {vs us : List Value} {M M' N : Nat} {w : World} (h : KnownL Γ s vs M N w us) (hM : M' ≤ M) : KnownL Γ s vs M' N w us := by
  obtain ⟨wf, ρ, h1, h2, h3, h4, h5, h6⟩ := h
  exact ⟨wf, ρ, h1, h2, h3, fun b hb => Nat.le_trans hM (h4 b hb), h5, h6⟩

theorem KnownL.high {s : HS} {vs us : List Value} {M N N' : Nat} {w : World} (h : KnownL Γ s vs M N w us) (hN : N ≤ N') : KnownL Γ s vs M N' w us := by
  obtain ⟨wf, ρ, h1, h2, h3, h4, h5, h6⟩ := h
  exact ⟨wf, ρ, h1, h2, h3, h4, fun b hb => Nat.lt_of_lt_of_le (h5 b hb) hN, h6⟩

theorem VRs.sub {ρ : Rho} {vs us : List Value} (h : VRs ρ vs us) : ∀ (js : List Nat) (as as' : List Value), js.map (fun j => vs[j]?) = as.map some → js.map (fun j => us[j]?) = as'.map some → VRs ρ as as' := by
  intro js
  induction js with
  | nil =>
    intro as as' h1 h2
    cases as with
    | nil =>
      cases as' with
      | nil => exact VRs.nil ρ
      | cons a as' => simp at h2
    | cons a as => simp at h1
  | cons j js ih =>
    intro as as' h1 h2
    cases as with
    | nil => simp at h1
    | cons a as =>
      cases as' with
      | nil => simp at h2
      | cons a' as' =>
        simp only [List.map_cons, List.cons.injEq] at h1 h2
        exact VRs.cons (h.2 j a a' h1.1 h2.1) (ih as as' h1.2 h2.2)

/-- some of the values -/
theorem KnownL.pick {s : HS} {vs us : List Value} {M N : Nat} {w : World} (h : KnownL Γ s vs M N w us) {as as' : List Value} (hp : ∀ ρ, VRs ρ vs us → VRs ρ as as') : KnownL Γ s as M N w as' := by
  obtain ⟨wf, ρ, h1, h⟩ := h
  exact ⟨wf, ρ, hp ρ h1, h⟩

/-- nothing is known yet -/
theorem KnownL.none (hbase : ∀ i, Γ.base i = none) (n : Nat) (hn : n ≤ 200000) (M N : Nat) (w : World) : KnownL Γ (boot n []) [] M N w [] := by
  have none_ : ∀ j x, ((boot n []).h).get j = some x → False := fun j x hj => by
    have hj : (Tr.e : Tr IObj).get j = some x := hj
    rw [Tr.get_e] at hj; cases hj
  exact ⟨boot_wf n hn, ⟨fun _ => Option.none, Γ.σ⟩, VRs.nil _, ⟨fun i x rb _ hr => (by cases hr), fun i j x y rb rb' _ _ _ _ _ hr => (by cases hr), fun i rb hr => (by cases hr)⟩,
    fun i rb hr => (by cases hr), fun b ⟨j, x, rb, hj, _⟩ => (none_ j x hj).elim, fun b ⟨j, x, rb, hj, _⟩ => (none_ j x hj).elim, rfl, fun i rb hi => by rw [hbase] at hi; cases hi⟩

/-- a call upon what is known: what it answers is known with the rest -/
theorem call_next (R : Ready P Γ) {rounds k f M N : Nat} {as as' vs us : List Value} {r : Value} {s s' : HS} {w : World} (he : Γ.ext f = none) (h : callF Γ rounds k true f as (clean s) = some (r, s'))
    (hk : KnownL Γ s vs M N w us) (hfx : ∀ b o, Γ.fix b = some o → b < M ∧ w.heap[b]? = some o) (hM : M ≤ w.heap.size) (ha : ∀ ρ, VRs ρ vs us → VRs ρ as as') :
    Calls P f as'.toArray w fun e w' => ∃ r', e = .returned r' ∧ KnownL Γ s' (r :: vs) M w'.heap.size w' (r' :: us) ∧ Below M w w' ∧ (∀ b, N ≤ b → b < w.heap.size → w'.heap[b]? = w.heap[b]?) ∧
      (noMarks s'.wr = true → KnownL Γ s vs M N w' us) := by
  have K := callF_ok R.cx (drawOk R.cx R.mixed) R.ext R.name rounds k
  obtain ⟨wf, ρ, h1, h2, h3, h4, h5, h6⟩ := hk
  have L := (Loc.callF (Γ := Γ) rounds k true f as).at_ _ _ _ (clean_wf wf) h
  have up := (Loc.callF (Γ := Γ) rounds k true f as).up _ _ _ h
  have up : s.nx ≤ s'.nx := up
  obtain ⟨-, hc⟩ := K.fn he h (clean_wf wf) (w := w) (ρ := ρ) (as' := as') ⟨h2, fun i hi _ => by
      have hi : s.nx ≤ i := hi
      cases hr : ρ i with
      | none => rfl
      | some rb => exact absurd (h3 i rb hr) (by omega), h6, fun b o hb => ⟨(hfx b o hb).2, fun hi => by
        have g1 := h4 b hi
        have g2 := (hfx b o hb).1
        omega⟩⟩ (ha ρ h1)
  refine callsIn_wide.1 (CallsIn.mono (hc Fence.wide wide_wide) ?_)
  rintro e w' ⟨r', ρ', rfl, hv, st⟩
  refine ⟨r', rfl, ⟨L.wf, ρ', VRs.cons hv (h1.mono st.ext), st.inv, fun i rb hi => ?_, fun b hb => ?_, fun b hb => hb.lt st.inv, h6.up st.ext⟩, ⟨st.os, st.tape, st.out, st.size, fun i hi => st.frame i (by omega) fun hb => ?_⟩, fun b hb hlt => st.frame b hlt fun hi => ?_, fun hw => ?_⟩
  · rcases st.dom i rb hi with hi | ⟨-, hi⟩
    · have := h3 i rb hi; omega
    · exact hi
  · rcases st.own b hb with hb | hb
    · omega
    · exact h4 b hb
  · have := h4 i hb; omega
  · have := h5 b hi.toL; omega
  · have hh := run_same (s := s) (Loc.callF (Γ := Γ) rounds k true f as) h wf hw
    have hle : Rho.le ρ (cutRho ρ' s.nx) := ⟨st.ext.val, fun i rb hi => cutRho_lt (st.ext.get _ _ hi) (h3 i rb hi)⟩
    have hold : ∀ i rb, cutRho ρ' s.nx i = some rb → ρ i = some rb := fun i rb hi => by
      obtain ⟨g1, g2⟩ := cutRho_of hi
      rcases st.dom i rb g2 with g | ⟨g, -⟩
      · exact g
      · have g : s.nx ≤ i := g
        omega
    refine ⟨wf, cutRho ρ' s.nx, h1.mono hle, ⟨fun i x rb hx hr => ?_, fun i j x y rb rb' hij hx hy lx ly hr hr' => ?_, fun i rb hr => st.inv.lim i rb (cutRho_of hr).2⟩, fun i rb hi => (cutRho_of hi).1, fun b hb => ?_, fun b hb => ?_, h6.up hle⟩
    · obtain ⟨g1, g2⟩ := cutRho_of hr
      exact (st.inv.obj i x rb (by rw [hh i g1]; exact hx) g2).cut h3 (h2.obj i x rb hx (hold i rb hr)) rfl
    · obtain ⟨g1, g2⟩ := cutRho_of hr
      obtain ⟨g1', g2'⟩ := cutRho_of hr'
      exact st.inv.apart i j x y rb rb' hij (by rw [hh i g1]; exact hx) (by rw [hh j g1']; exact hy) lx ly g2 g2'
    · obtain ⟨i, x, rb, g1, g2, g3, g4⟩ := hb
      exact h4 b ⟨i, x, rb, g1, g2, hold i rb g3, g4⟩
    · obtain ⟨i, x, rb, g1, g2, g3, g4⟩ := hb
      exact h5 b ⟨i, x, rb, g1, g2, hold i rb g3, g4⟩

end top
end Go.Ideal

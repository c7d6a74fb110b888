/-
  Code: what the evaluator runs, the program runs. Conditions: none.
-/
import Derived.Test.YtpoaiachllclhaaGreatDoorCall
import Derived.RangeFuncRecord
namespace Go.Ideal
open Go

def exOf : Ex → Exit
  | .normal => .normal
  | .ret => .ret
  | .exit id => .exit id

/-- A loop, by the rounds that are left. -/
theorem wpIn_loop_fuel {F : Fence} {n : Nat} {P : Program} {Q : Exit → Act → World → Prop} {c : Code} (I : Nat → Act → World → Prop)
    (round : ∀ j a w, I j a w → c.wpIn F n P (Exit.then (fun a' w' => ∃ i, i < j ∧ I i a' w') Q) a w) {j : Nat} {a : Act} {w : World} (h₀ : I j a w) : (Code.loop c).wpIn F n P Q a w := by
  intro b k cs hro hb hr
  have key : ∀ j a w, I j a w →
      ∃ e a' w', Q e a' w' ∧ ArrivesIn (Machine.fenced P F) P (lone (b.atR a (.code c :: .inLoop c :: k)) cs w) b k cs e a' w' := by
    intro j
    induction j using Nat.strongRecOn with
    | _ j ih =>
      intro a w hI
      obtain ⟨e, a₁, w₁, hq, harr⟩ := round j a w hI b (.inLoop c :: k) cs hro hb hr
      cases e with
      | normal =>
        obtain ⟨i, hlt, hI₁⟩ := hq
        obtain ⟨e₂, a₂, w₂, hq₂, harr₂⟩ := ih i hlt a₁ w₁ hI₁
        exact ⟨e₂, a₂, w₂, hq₂, .of_steps (StepsIn.trans harr (.one (fenced_calm hb hr rfl) stepR_inLoop)) harr₂⟩
      | exit id => exact ⟨_, a₁, w₁, hq, .pass (x := .inLoop c) rfl (fun _ _ => .inl (by simp)) harr⟩
      | goto l => exact ⟨_, a₁, w₁, hq, .pass (x := .inLoop c) rfl (fun _ _ => .inl (by simp)) harr⟩
      | ret => exact ⟨_, a₁, w₁, hq, .pass (x := .inLoop c) rfl (fun _ _ => .inl (by simp)) harr⟩
      | panic ch => exact ⟨_, a₁, w₁, hq, .pass (x := .inLoop c) rfl (fun _ _ => .inl (by simp)) harr⟩
      | outgrown => exact ⟨_, a₁, w₁, hq, .pass (x := .inLoop c) rfl (fun _ _ => .inl (by simp)) harr⟩
  obtain ⟨e, a', w', hq, harr⟩ := key _ a w h₀
  exact ⟨e, a', w', hq, .of_steps (.one (fenced_calm hb hr rfl) stepR_loop) harr⟩

theorem stepR_scope {P : Program} {b : Frame} {a : Act} {k : List Item} {cs : List Frame} {w : World} {c : Code} :
    step P (lone (b.atR a (.code (.scope c) :: k)) cs w) = .next (lone (b.atR a (.code c :: .inScope c :: k)) cs w) :=
  step_lone_go (by simp [stepG, stepG.exec, Frame.atR])
theorem stepR_inScope {P : Program} {b : Frame} {a : Act} {k : List Item} {cs : List Frame} {w : World} {c : Code} :
    step P (lone (b.atR a (.inScope c :: k)) cs w) = .next (lone (b.atR a k) cs w) :=
  step_lone_go (by simp [stepG, stepG.exec, Frame.atR])

theorem wpIn_scope {F : Fence} {n : Nat} {P : Program} {Q : Exit → Act → World → Prop} {c : Code} {a : Act} {w : World} (hQ : ∀ l a w, ¬ Q (.goto l) a w) (h : c.wpIn F n P Q a w) : (Code.scope c).wpIn F n P Q a w := by
  intro b k cs hro hb hr
  have h0 : (lone (b.atR a (.code (.scope c) :: k)) cs w).fenced P F := fenced_calm hb hr rfl
  obtain ⟨e, a₁, w₁, hq, harr⟩ := h b (.inScope c :: k) cs hro hb hr
  have hx : ∀ id, exitTo id (.inScope c :: k) = exitTo id k := fun id => by simp [exitTo]
  cases e with
  | normal => exact ⟨.normal, a₁, w₁, hq, .head h0 stepR_scope (StepsIn.trans harr (.one (fenced_calm hb hr rfl) stepR_inScope))⟩
  | exit id => exact ⟨.exit id, a₁, w₁, hq, fun k' hk => .head h0 stepR_scope (harr.1 k' (by rw [hx]; exact hk)),
        fun hr' hk => let ⟨k₁, h1, h2⟩ := harr.2 hr' (by rw [hx]; exact hk); ⟨k₁, h1, .head h0 stepR_scope h2⟩⟩
  | goto l => exact absurd hq (hQ _ _ _)
  | ret => exact ⟨_, a₁, w₁, hq, .of_steps (.one h0 stepR_scope) harr⟩
  | panic ch => exact ⟨_, a₁, w₁, hq, .of_steps (.one h0 stepR_scope) harr⟩
  | outgrown => exact ⟨_, a₁, w₁, hq, .of_steps (.one h0 stepR_scope) harr⟩

section code
variable {P : Program} {Γ : Cx} (C : CxOk P Γ)

/-- marks among the deferred calls -/
def MR (ρ : Rho) (ms : List Nat) (ds : List Deferred) : Prop := ms.length = ds.length ∧ ∀ (j : Nat) m d, ms[j]? = some m → ds[j]? = some d → ∃ rb, ρ m = some rb ∧ d.target = .collected rb.blk
theorem MR.mono {ρ ρ' : Rho} (h : Rho.le ρ ρ') {ms ds} (hm : MR ρ ms ds) : MR ρ' ms ds := ⟨hm.1, fun j m d a b => let ⟨rb, x, y⟩ := hm.2 j m d a b; ⟨rb, h.get _ _ x, y⟩⟩

structure FR (ρ : Rho) (F : Fm) (a : Act) : Prop where
  tr : TR ρ F.T a.tmps
  size : a.tmps.size = F.size
  lim : F.size ≤ 100000
  marks : MR ρ F.ms a.defers

theorem OptR.mono {ρ ρ' : Rho} (h : Rho.le ρ ρ') {m m' : Option Nat} (hm : OptR ρ m m') : OptR ρ' m m' := by
  cases m <;> cases m' <;> simp only [OptR] at hm ⊢
  obtain ⟨rb, a, b⟩ := hm
  exact ⟨rb, h.get _ _ a, b⟩

/-- a drawn region -/
def DrawOk (P : Program) (Γ : Cx) : Prop :=
  ∀ {call : CallF}, CallOk P Γ call → ∀ {F : Fence}, Wide F → ∀ {size : Nat} {ops : Array Oper} {Q : Exit → Act → World → Prop} {T T' : Env} {s s' : HS} {ρ : Rho} {a : Act} {w : World},
    size ≤ 100000 → dstsOk ops.toList 0 = true → regionOk ops (numbered ops) [] = true → runDraw Γ call size ops (numbered ops) [] T s = some (T', s') → WF s → Pre Γ ρ s w s' → TR ρ T a.tmps → a.tmps.size = size →
    (∀ a' w' ρ', TR ρ' T' a'.tmps → a'.tmps.size = size → a'.defers = a.defers → Stp Γ ρ s w ρ' s' w' → Q .normal a' w') →
    ∀ t, wpOpsIn F 0 P ops Q (Region.schedule (P.follows .mixedOrders) ops t) a w

/-- a frame's round and size stay -/
def Same (F F' : Fm) : Prop := F'.round = F.round ∧ F'.size = F.size
theorem Same.refl (F : Fm) : Same F F := ⟨rfl, rfl⟩
theorem Same.trans {a b c : Fm} (h : Same a b) (k : Same b c) : Same a c := ⟨k.1.trans h.1, k.2.trans h.2⟩

theorem andThen_eq {k : Fm → EM (Ex × Fm)} {r q : Ex × Fm} {s s' : HS} (h : andThen k r s = some (q, s')) : (r.1 = .normal ∧ k r.2 s = some (q, s')) ∨ (r.1 ≠ .normal ∧ q = r ∧ s' = s) := by
  obtain ⟨x, F⟩ := r
  cases x with
  | normal => exact .inl ⟨rfl, h⟩
  | ret => simp only [andThen, pure_eq, Prod.mk.injEq] at h; exact .inr ⟨by simp, h.1, h.2⟩
  | exit id => simp only [andThen, pure_eq, Prod.mk.injEq] at h; exact .inr ⟨by simp, h.1, h.2⟩

theorem outOf_eq {id : Nat} {r q : Ex × Fm} {s s' : HS} (h : outOf id r s = some (q, s')) : s' = s ∧ q.2 = r.2 ∧ ((r.1 = .exit id ∧ q.1 = .normal) ∨ (r.1 ≠ .exit id ∧ q.1 = r.1)) := by
  obtain ⟨x, F⟩ := r
  cases x with
  | normal => simp only [outOf, pure_eq, Prod.mk.injEq] at h; obtain ⟨rfl, rfl⟩ := h; exact ⟨rfl, rfl, .inr ⟨by simp, rfl⟩⟩
  | ret => simp only [outOf, pure_eq, Prod.mk.injEq] at h; obtain ⟨rfl, rfl⟩ := h; exact ⟨rfl, rfl, .inr ⟨by simp, rfl⟩⟩
  | exit i =>
    simp only [outOf] at h
    cases hb : Nat.beq i id with
    | true =>
      rw [hb, cond_true] at h
      simp only [pure_eq, Prod.mk.injEq] at h; obtain ⟨rfl, rfl⟩ := h
      exact ⟨rfl, rfl, .inl ⟨by rw [Nat.eq_of_beq_eq_true hb], rfl⟩⟩
    | false =>
      rw [hb, cond_false] at h
      simp only [pure_eq, Prod.mk.injEq] at h; obtain ⟨rfl, rfl⟩ := h
      exact ⟨rfl, rfl, .inr ⟨fun e => (by injection e with e; rw [e, Nat.beq_refl] at hb; cases hb), rfl⟩⟩

theorem endRange_same {F : Fm} {l : Nat} {r : Ex × Fm} {s s' : HS} (h : endRange F l s = some (r, s')) : r.2 = F := by
  simp only [endRange, bind_eq] at h
  obtain ⟨o, s1, h1, h⟩ := h
  cases o <;> dsimp only at h <;> try (simp [EM.fail] at h; done)
  simp only [need_eq, bind_eq] at h
  obtain ⟨-, u, s2, h2, h⟩ := h
  split at h <;> first | (simp [EM.fail] at h; done) | (simp only [pure_eq, Prod.mk.injEq] at h; obtain ⟨rfl, rfl⟩ := h; rfl)

theorem runCode_same {call : CallF} (c : Code) : ∀ {n : Nat} {F : Fm} {r : Ex × Fm} {s s' : HS}, runCode c Γ call n F s = some (r, s') → Same F r.2 := by
  induction c with
  | skip => intro n F r s s' h; obtain ⟨rfl, rfl⟩ := Prod.mk.inj (pure_eq.1 h); exact .refl F
  | region id ops draw =>
    intro n F r s s' h
    have h : runRegion draw ops Γ call F s = some (r, s') := h
    cases draw with
    | false =>
      rw [runRegion_text, bind_eq] at h
      obtain ⟨T, s1, h1, h⟩ := h
      obtain ⟨rfl, rfl⟩ := Prod.mk.inj (pure_eq.1 h); exact .refl _
    | true =>
      cases hd : dstsOk ops.toList 0 && regionOk ops (numbered ops) [] with
      | false => rw [runRegion_not _ _ _ hd] at h; simp [EM.fail] at h
      | true =>
        rw [runRegion_draw _ _ _ hd, bind_eq] at h
        obtain ⟨T, s1, h1, h⟩ := h
        obtain ⟨rfl, rfl⟩ := Prod.mk.inj (pure_eq.1 h); exact .refl _
  | seq a b iha ihb =>
    intro n F r s s' h
    obtain ⟨q, s1, h1, h⟩ := bind_eq.1 (show EM.bind (runCode a Γ call n F) (andThen fun F' => runCode b Γ call n F') s = some (r, s') from h)
    rcases andThen_eq h with ⟨-, h⟩ | ⟨-, rfl, -⟩
    · exact (iha h1).trans (ihb h)
    · exact iha h1
  | cond c x y ihx ihy =>
    intro n F r s s' h
    obtain ⟨v, hv, h⟩ := have_eq.1 (show EM.have (look c F.T) _ s = some (r, s') from h)
    obtain ⟨b, hb, h⟩ := have_eq.1 h
    cases b
    · exact ihy h
    · exact ihx h
  | block id c ih =>
    intro n F r s s' h
    obtain ⟨q, s1, h1, h⟩ := bind_eq.1 (show EM.bind (runCode c Γ call n F) (outOf id) s = some (r, s') from h)
    obtain ⟨-, e, -⟩ := outOf_eq h
    rw [e]; exact ih h1
  | loop c ih =>
    intro n F r s s' h
    have h : runLoop (fun F' => runCode c Γ call n F') n F s = some (r, s') := h
    have go : ∀ k F s, runLoop (fun F' => runCode c Γ call n F') k F s = some (r, s') → Same F r.2 := by
      intro k
      induction k with
      | zero => intro F s h; rw [runLoop_zero] at h; cases h
      | succ k ihk =>
        intro F s h
        rw [runLoop_succ, bind_eq] at h
        obtain ⟨q, s1, h1, h⟩ := h
        rcases andThen_eq h with ⟨-, h⟩ | ⟨-, rfl, -⟩
        · exact (ih h1).trans (ihk _ _ h)
        · exact ih h1
    exact go n F s h
  | rangeFunc f ps a b _ _ =>
    intro n F r s s' h
    have h : runRange f ps a b call F s = some (r, s') := h
    simp only [runRange, have_eq, need_eq, bind_eq] at h
    obtain ⟨v, hv, -, mk, s1, h1, l, s2, h2, u, s3, h3, h⟩ := h
    rw [endRange_same h]; exact ⟨rfl, rfl⟩
  | exit id => intro n F r s s' h; obtain ⟨rfl, rfl⟩ := Prod.mk.inj (pure_eq.1 h); exact .refl F
  | scope c ih => intro n F r s s' h; exact ih h
  | label l => intro n F r s s' h; obtain ⟨rfl, rfl⟩ := Prod.mk.inj (pure_eq.1 h); exact .refl F
  | goto l => intro n F r s s' h; simp only [show runCode (.goto l) Γ call n F = EM.fail from rfl, EM.fail] at h; cases h
  | ret => intro n F r s s' h; obtain ⟨rfl, rfl⟩ := Prod.mk.inj (pure_eq.1 h); exact .refl F
  | refuse w => intro n F r s s' h; simp only [show runCode (.refuse w) Γ call n F = EM.fail from rfl, EM.fail] at h; cases h

end code
end Go.Ideal

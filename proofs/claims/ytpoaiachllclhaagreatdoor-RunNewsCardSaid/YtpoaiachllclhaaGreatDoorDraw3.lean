/-
  Drawn regions: one operation, in whatever order. Conditions: none.
-/
import Derived.Test.YtpoaiachllclhaaGreatDoorDraw2
import Derived.OrdersIn
namespace Go.Ideal
open Go

/-- the fixed parts of a drawn region -/
structure DS (P : Program) (Γ : Cx) (call : CallF) (size : Nat) (ops : Array Oper) (T : Nat → Env) (h : Nat → Tr IObj) (n : Nat → Nat) (v : Nat → Value) (f : Nat → Foot) (run : Nat → Bool) : Prop where
  C : CxOk P Γ
  K : CallOk P Γ call
  lim : size ≤ 100000
  R : RegOk ops
  tr : Trace Γ call size ops T h n v f run 0 ops.size
  wf0 : WF (bare (h 0) (n 0))

section ds
variable {P : Program} {Γ : Cx} {call : CallF} {size : Nat} {ops : Array Oper} {T : Nat → Env} {h : Nat → Tr IObj} {n : Nat → Nat} {v : Nat → Value} {f : Nat → Foot} {run : Nat → Bool}

def tch (g : Foot) (k : Nat) : Prop := g.rd.get k ≠ none ∨ g.wr.get k ≠ none
def wrote (n : Nat → Nat) (f : Nat → Foot) (j k : Nat) : Prop := (f j).wr.get k ≠ none ∧ k / 4096 < n j

theorem op_at {i : Nat} (hi : i < ops.size) : ∃ o, ops[i]? = some o := ⟨ops[i], Array.getElem?_eq_getElem hi⟩


theorem DS.locAt (S : DS P Γ call size ops T h n v f run) {i : Nat} {o : Oper} {q : HS} (wf : WF (bare (h i) (n i))) (hq : anyOp o.op Γ call (T i) (bare (h i) (n i)) = some (v i, q)) : LocAt (anyOp o.op Γ call (T i)) (bare (h i) (n i)) (v i) q :=
  (Loc.anyOp S.K.loc _ _).at_ _ _ _ wf hq

theorem bare_wf {q : HS} (hq : WF q) : WF (bare q.h q.nx) := ⟨Nat.le_refl _, hq.lim, hq.free, hq.short, fun k hk => by rcases hk with h | h <;> exact absurd (Tr.get_e k) h⟩

theorem DS.wf (S : DS P Γ call size ops T h n v f run) : ∀ i, i ≤ ops.size → WF (bare (h i) (n i)) := by
  intro i
  induction i with
  | zero => exact fun _ => S.wf0
  | succ i ih =>
    intro hi
    obtain ⟨o, ho⟩ := op_at (ops := ops) (show i < ops.size by omega)
    have wf := ih (by omega)
    cases hr : run i with
    | true =>
      obtain ⟨q, h1, h2, h3, h4⟩ := S.tr.yes i o (Nat.zero_le _) (by omega) ho hr
      have := bare_wf (S.locAt wf h1).wf
      rw [← h2, ← h3]; exact this
    | false =>
      obtain ⟨h1, h2, h3, h4⟩ := S.tr.no i o (Nat.zero_le _) (by omega) ho hr
      rw [h2, h3]; exact wf

theorem DS.step (S : DS P Γ call size ops T h n v f run) {i : Nat} (hi : i < ops.size) : n i ≤ n (i + 1) ∧ (f i).lo = n i ∧ (f i).hi = n (i + 1) ∧ (∀ k, k / 4096 < n i → (f i).wr.get k = none → view (h (i + 1)) k = view (h i) k) ∧ ∀ k, tch (f i) k → tch (f i) (key (k / 4096) 0) := by
  obtain ⟨o, ho⟩ := op_at (ops := ops) hi
  cases hr : run i with
  | true =>
    obtain ⟨q, h1, h2, h3, h4⟩ := S.tr.yes i o (Nat.zero_le _) hi ho hr
    have L := S.locAt (S.wf i (by omega)) h1
    have hn : n i ≤ q.nx := L.nx
    rw [h4]
    refine ⟨by rw [← h3]; exact hn, rfl, rfl, fun k hk hw => ?_, fun k hk => L.wf.cl k hk⟩
    rw [← h2]; exact L.keep k hk hw
  | false =>
    obtain ⟨h1, h2, h3, h4⟩ := S.tr.no i o (Nat.zero_le _) hi ho hr
    rw [h4, h2, h3]
    exact ⟨Nat.le_refl _, rfl, rfl, fun _ _ _ => rfl, fun k hk => by rcases hk with h | h <;> exact absurd (Tr.get_e k) h⟩

theorem DS.mono (S : DS P Γ call size ops T h n v f run) : ∀ j, j ≤ ops.size → ∀ i, i ≤ j → n i ≤ n j := by
  intro j
  induction j with
  | zero =>
    intro _ i hi
    obtain rfl : i = 0 := by omega
    exact Nat.le_refl _
  | succ j ih =>
    intro hj i hi
    by_cases h : i = j + 1
    · subst h; exact Nat.le_refl _
    · exact Nat.le_trans (ih (by omega) i (by omega)) (S.step (show j < ops.size by omega)).1

theorem DS.maker (_S : DS P Γ call size ops T h n v f run) {b : Nat} : ∀ j, j ≤ ops.size → n 0 ≤ b → b < n j → ∃ i, i < j ∧ n i ≤ b ∧ b < n (i + 1) := by
  intro j
  induction j with
  | zero => intro _ h1 h2; omega
  | succ j ih =>
    intro hj h1 h2
    by_cases h : b < n j
    · obtain ⟨i, a, c⟩ := ih (by omega) h1 h; exact ⟨i, by omega, c⟩
    · exact ⟨j, by omega, by omega, h2⟩

theorem DS.maker_eq (S : DS P Γ call size ops T h n v f run) {b i j : Nat} (hi : i < ops.size) (hj : j < ops.size) (h1 : n i ≤ b) (h2 : b < n (i + 1)) (h3 : n j ≤ b) (h4 : b < n (j + 1)) : i = j := by
  rcases Nat.lt_trichotomy i j with h | h | h
  · have := S.mono j (by omega) (i + 1) (by omega); omega
  · exact h
  · have := S.mono i (by omega) (j + 1) (by omega); omega

/-- two that meet are in order -/
theorem DS.meet (S : DS P Γ call size ops T h n v f run) {i j k : Nat} (hi : i < ops.size) (hj : j < i) (hk : (tch (f i) k ∧ (f j).wr.get k ≠ none) ∨ ((f i).wr.get k ≠ none ∧ tch (f j) k)) : Nat.testBit (bits ops i) j = true := by
  rcases S.tr.apart i j (Nat.zero_le _) hi hj with h | ⟨h1, h2, h3, -⟩
  · exact h
  · exfalso
    have a1 := Tr.apart_get _ _ h1 k
    have a2 := Tr.apart_get _ _ h2 k
    have a3 := Tr.apart_get _ _ h3 k
    rcases hk with ⟨h4 | h4, h5⟩ | ⟨h4, h5 | h5⟩
    · rcases a3 with a | a; exact h4 a; exact h5 a
    · rcases a2 with a | a; exact h4 a; exact h5 a
    · rcases a1 with a | a; exact h4 a; exact h5 a
    · rcases a2 with a | a; exact h4 a; exact h5 a

theorem DS.made (S : DS P Γ call size ops T h n v f run) {i j k : Nat} (hi : i < ops.size) (hj : j < i) (hk : tch (f i) k) (h1 : n j ≤ k / 4096) (h2 : k / 4096 < n (j + 1)) : Nat.testBit (bits ops i) j = true := by
  rcases S.tr.apart i j (Nat.zero_le _) hi hj with h | ⟨-, -, -, h4⟩
  · exact h
  · exfalso
    obtain ⟨-, l1, l2, -, -⟩ := S.step (show j < ops.size by omega)
    obtain ⟨a, b⟩ := h4 (k / 4096) (by rw [l1]; exact h1) (by rw [l2]; exact h2)
    rcases (S.step hi).2.2.2.2 k hk with c | c
    · exact c a
    · exact c b

theorem DS.temps (S : DS P Γ call size ops T h n v f run) : ∀ i, i ≤ ops.size → ∀ τ, (∃ j o, j < i ∧ ops[j]? = some o ∧ o.dst = some τ ∧ (T i).get τ = some (v j)) ∨ ((∀ j o, j < i → ops[j]? = some o → o.dst ≠ some τ) ∧ (T i).get τ = (T 0).get τ) := by
  intro i
  induction i with
  | zero => intro _ τ; exact .inr ⟨fun j o hj => absurd hj (by omega), rfl⟩
  | succ i ih =>
    intro hi τ
    obtain ⟨o, ho⟩ := op_at (ops := ops) (show i < ops.size by omega)
    have hp := S.tr.put i o (Nat.zero_le _) (by omega) ho
    have I := ih (by omega) τ
    cases hd : o.dst with
    | none =>
      rw [hd] at hp
      simp only [Go.Ideal.put] at hp
      rw [← Option.some.inj hp]
      rcases I with ⟨j, o', h1, h2, h3, h4⟩ | ⟨h1, h2⟩
      · exact .inl ⟨j, o', by omega, h2, h3, h4⟩
      · refine .inr ⟨fun j o' hj ho' => ?_, h2⟩
        by_cases hji : j = i
        · subst hji; rw [← Option.some.inj (ho.symm.trans ho'), hd]; simp
        · exact h1 j o' (by omega) ho'
    | some d =>
      rw [hd] at hp
      simp only [Go.Ideal.put] at hp
      cases hb : Nat.blt d size with
      | false => rw [hb] at hp; cases hp
      | true =>
        rw [hb, cond_true] at hp
        have hds : d < size := Nat.le_of_ble_eq_true hb
        have hlim := S.lim
        have hd2 : Nat.lt d 1000000000000 := Nat.lt_of_lt_of_le hds (by omega)
        rw [← Option.some.inj hp, Tr.get_set _ _ _ _ hd2]
        by_cases hτ : τ = d
        · subst hτ; exact .inl ⟨i, o, by omega, ho, hd, by rw [if_pos rfl]⟩
        · rw [if_neg hτ]
          rcases I with ⟨j, o', h1, h2, h3, h4⟩ | ⟨h1, h2⟩
          · exact .inl ⟨j, o', by omega, h2, h3, h4⟩
          · refine .inr ⟨fun j o' hj ho' => ?_, h2⟩
            by_cases hji : j = i
            · subst hji; rw [← Option.some.inj (ho.symm.trans ho'), hd]; exact fun e => hτ (Option.some.inj e).symm
            · exact h1 j o' (by omega) ho'

theorem DS.views (S : DS P Γ call size ops T h n v f run) {k : Nat} : ∀ j, j ≤ ops.size → ∀ m, m ≤ j → k / 4096 < n m → (∀ i, m ≤ i → i < j → ¬ wrote n f i k) → view (h j) k = view (h m) k := by
  intro j
  induction j with
  | zero =>
    intro _ m hm _ _
    obtain rfl : m = 0 := by omega
    rfl
  | succ j ih =>
    intro hj m hm hk hw
    by_cases hmj : m = j + 1
    · subst hmj; rfl
    · have hkj : k / 4096 < n j := Nat.lt_of_lt_of_le hk (S.mono j (by omega) m (by omega))
      rw [(S.step (show j < ops.size by omega)).2.2.2.1 k hkj ?_]
      · exact ih (by omega) m (by omega) hk fun i h1 h2 => hw i h1 (by omega)
      · cases hx : (f j).wr.get k with
        | none => rfl
        | some u => exact absurd ⟨by rw [hx]; simp, hkj⟩ (hw j (by omega) (by omega))

/-- The state, when the operations of D have been run. -/
structure Sim (Γ : Cx) (size : Nat) (ops : Array Oper) (T : Nat → Env) (h : Nat → Tr IObj) (n : Nat → Nat) (v : Nat → Value) (f : Nat → Foot) (ρ0 : Rho) (s0 : HS) (w0 : World) (ds0 : List Deferred) (D : Nat → Prop) (ρ : Rho) (t : Tr IObj) (a : Act) (w : World) : Prop where
  stp : Stp Γ ρ0 s0 w0 ρ { h := t, nx := n ops.size, wm := 0, rd := .e, wr := .e } w
  dom : ∀ k rb, ρ k = some rb → ρ0 k = some rb ∨ ∃ j, D j ∧ j < ops.size ∧ n j ≤ k ∧ k < n (j + 1)
  size : a.tmps.size = size
  defers : a.defers = ds0
  tmpD : ∀ (j : Nat) o τ, D j → ops[j]? = some o → o.dst = some τ → ∃ v', a.tmps[τ]? = some v' ∧ VR ρ (v j) v'
  tmp0 : ∀ τ u, (T 0).get τ = some u → (∀ (j : Nat) o, D j → ops[j]? = some o → o.dst ≠ some τ) → ∃ v', a.tmps[τ]? = some v' ∧ VR ρ u v'
  off : ∀ b, n 0 ≤ b → (¬ ∃ j, D j ∧ j < ops.size ∧ n j ≤ b ∧ b < n (j + 1)) → t.get b = none
  on : ∀ k, (k / 4096 < n 0 ∨ ∃ j, D j ∧ j < ops.size ∧ n j ≤ k / 4096 ∧ k / 4096 < n (j + 1)) →
    ∃ m, ((m = 0 ∧ k / 4096 < n 0) ∨ ∃ j, D j ∧ j < ops.size ∧ m = j + 1 ∧ k / 4096 < n (j + 1) ∧ (wrote n f j k ∨ n j ≤ k / 4096)) ∧ (∀ j, D j → j < ops.size → m ≤ j → ¬ wrote n f j k) ∧ view t k = view (h m) k
  short : ∀ i x c, t.get i = some x → cellsIn x = some c → c.length < 4095

def Closed (ops : Array Oper) (D : Nat → Prop) : Prop := ∀ j i, D j → j < ops.size → i < j → Nat.testBit (bits ops j) i = true → D i

/-- what an operation touches is as it was in the order of the text -/
theorem DS.seen (S : DS P Γ call size ops T h n v f run) {ρ0 ρ : Rho} {s0 : HS} {w0 w : World} {ds0 : List Deferred} {D : Nat → Prop} {t : Tr IObj} {a : Act} (I : Sim Γ size ops T h n v f ρ0 s0 w0 ds0 D ρ t a w) (cl : Closed ops D)
    {i k : Nat} (hi : i < ops.size) (hD : ¬ D i) (hb : ∀ j, j < i → Nat.testBit (bits ops i) j = true → D j) (hk : tch (f i) k) (hkn : k / 4096 < n i) : view t k = view (h i) k := by
  have hpres : k / 4096 < n 0 ∨ ∃ j, D j ∧ j < ops.size ∧ n j ≤ k / 4096 ∧ k / 4096 < n (j + 1) := by
    by_cases h0 : k / 4096 < n 0
    · exact .inl h0
    · obtain ⟨c, hc, h1, h2⟩ := S.maker i (by omega) (by omega) hkn
      exact .inr ⟨c, hb c hc (S.made hi hc hk h1 h2), by omega, h1, h2⟩
  obtain ⟨m, hm, hlast, hview⟩ := I.on k hpres
  rw [hview]
  have hkm : k / 4096 < n m := by
    rcases hm with ⟨rfl, h⟩ | ⟨j, -, -, rfl, h, -⟩ <;> exact h
  by_cases hmi : m ≤ i
  · refine (S.views i (by omega) m hmi hkm fun j h1 h2 hw => ?_).symm
    exact hlast j (hb j h2 (S.meet hi h2 (.inl ⟨hk, hw.1⟩))) (by omega) h1 hw
  · exfalso
    rcases hm with ⟨rfl, _⟩ | ⟨j, hDj, hj, rfl, _, hwj⟩
    · omega
    · have hij : i ≠ j := fun e => hD (e ▸ hDj)
      rcases hwj with hw | hge
      · exact hD (cl j i hDj hj (by omega) (S.meet hj (by omega) (.inr ⟨hw.1, hk⟩)))
      · have := S.mono j (by omega) i (by omega); omega

/-- what an operation looks at is as it was in the order of the text -/
theorem DS.looked (S : DS P Γ call size ops T h n v f run) {ρ0 ρ : Rho} {s0 : HS} {w0 w : World} {ds0 : List Deferred} {D : Nat → Prop} {t : Tr IObj} {a : Act} (I : Sim Γ size ops T h n v f ρ0 s0 w0 ds0 D ρ t a w) (cl : Closed ops D)
    {i : Nat} {o : Oper} (hi : i < ops.size) (ho : ops[i]? = some o) (hD : ¬ D i) (hb : ∀ j, j < i → Nat.testBit (bits ops i) j = true → D j) {τ : Nat} {u : Value} (hτ : τ ∈ looksAll ops o) (hu : (T i).get τ = some u) :
    ∃ v', a.tmps[τ]? = some v' ∧ VR ρ u v' := by
  rcases S.temps i (by omega) τ with ⟨j, oj, h1, h2, h3, h4⟩ | ⟨h1, h2⟩
  · have hDj : D j := by
      rcases S.R.look i j o oj h1 ho h2 with h | ⟨h, -⟩
      · exact hb j h1 h
      · exact absurd hτ (h τ h3)
    rw [hu] at h4
    rw [Option.some.inj h4]
    exact I.tmpD j oj τ hDj h2 h3
  · rw [hu] at h2
    refine I.tmp0 τ u h2.symm fun j oj hDj hoj hd => ?_
    have hj : j < ops.size := (Array.getElem?_eq_some_iff.1 hoj).1
    rcases Nat.lt_trichotomy j i with h | h | h
    · exact h1 j oj h hoj hd
    · exact hD (h ▸ hDj)
    · rcases S.R.look j i oj o h hoj ho with h' | ⟨-, h'⟩
      · exact hD (cl j i hDj hj h h')
      · exact h' τ hd hτ

end ds
end Go.Ideal

/-
  Drawn regions: what the checks say of the operations; the run in the order of the text, step by step. Conditions: none.
-/
import Derived.Test.YtpoaiachllclhaaGreatDoorDraw1
namespace Go.Ideal
open Go

section statics

theorem inL_iff {t : Nat} : ∀ {l : List Nat}, inL t l = true ↔ t ∈ l := by
  intro l
  induction l with
  | nil => simp [inL]
  | cons u l ih =>
    simp only [inL, Bool.or_eq_true, ih, List.mem_cons]
    constructor
    · rintro (h | h)
      · exact .inl (Nat.eq_of_beq_eq_true h).symm
      · exact .inr h
    · rintro (h | h)
      · subst h; exact .inl (Nat.beq_refl _)
      · exact .inr h

/-- what an operation looks at, its guard's answer among it -/
def looksAll (ops : Array Oper) (o : Oper) : List Nat := tmpsL (looksL o.op) ++ guardL ops o.guard

def bits (ops : Array Oper) (i : Nat) : Nat := (Region.before ops).getD i 0

theorem numbered_get (ops : Array Oper) (i : Nat) : (numbered ops)[i]? = (ops[i]?).map fun o => (o, i, bits ops i) := by
  unfold numbered bits
  rw [List.getElem?_map, List.getElem?_zipIdx, Array.getElem?_toList]
  cases ops[i]? <;> simp

theorem numbered_length (ops : Array Oper) : (numbered ops).length = ops.size := by simp [numbered]

/-- What the check of a region says. -/
structure RegOk (ops : Array Oper) : Prop where
  back : ∀ (i : Nat) o, ops[i]? = some o → ∀ e ∈ o.after.toList, Region.binds .any e = true → e.on < i
  look : ∀ (i j : Nat) oi oj, j < i → ops[i]? = some oi → ops[j]? = some oj → Nat.testBit (bits ops i) j = true ∨ ((∀ d, oj.dst = some d → d ∉ looksAll ops oi) ∧ ∀ d, oi.dst = some d → d ∉ looksAll ops oj)
  dst : ∀ (i j : Nat) oi oj d, i ≠ j → ops[i]? = some oi → ops[j]? = some oj → oi.dst = some d → oj.dst ≠ some d

theorem regionOk_go {ops : Array Oper} : ∀ (l : List (Oper × Nat × Nat)) (k : Nat) (seen : List (Nat × Option Nat × List Nat)), (∀ j, l[j]? = (numbered ops)[k + j]?) →
    (∀ (j : Nat) o, j < k → ops[j]? = some o → (j, o.dst, looksAll ops o) ∈ seen) → regionOk ops l seen = true →
    (∀ (i : Nat) o, k ≤ i → ops[i]? = some o → ∀ e ∈ o.after.toList, Region.binds .any e = true → e.on < i) ∧
    (∀ (i j : Nat) oi oj, k ≤ i → j < i → ops[i]? = some oi → ops[j]? = some oj → Nat.testBit (bits ops i) j = true ∨ ((∀ d, oj.dst = some d → d ∉ looksAll ops oi) ∧ ∀ d, oi.dst = some d → d ∉ looksAll ops oj)) := by
  intro l
  induction l with
  | nil =>
    intro k seen hl _ _
    have hnone : ∀ i, k ≤ i → ops[i]? = none := fun i hi => by
      have := hl (i - k)
      rw [show k + (i - k) = i by omega, numbered_get] at this
      cases h : ops[i]? with
      | none => rfl
      | some o => rw [h] at this; simp at this
    exact ⟨fun i o hi ho => (by rw [hnone i hi] at ho; cases ho), fun i j oi oj hi _ ho => (by rw [hnone i hi] at ho; cases ho)⟩
  | cons p l ih =>
    intro k seen hl hseen h
    have h0 := hl 0
    simp only [List.getElem?_cons_zero, Nat.add_zero] at h0
    rw [numbered_get] at h0
    obtain ⟨o, ho, hp⟩ : ∃ o, ops[k]? = some o ∧ p = (o, k, bits ops k) := by
      cases hk : ops[k]? with
      | none => rw [hk] at h0; cases h0
      | some o => rw [hk] at h0; exact ⟨o, rfl, Option.some.inj h0⟩
    subst hp
    simp only [regionOk, Bool.and_eq_true] at h
    obtain ⟨ha, hs, hr⟩ := h
    obtain ⟨i1, i2⟩ := ih (k + 1) _ (fun j => by have := hl (j + 1); rw [show k + 1 + j = k + (j + 1) by omega]; simpa using this) (fun j o' hj ho' => by
      by_cases hjk : j = k
      · subst hjk
        obtain rfl := Option.some.inj (ho.symm.trans ho')
        exact List.mem_cons_self ..
      · exact List.mem_cons_of_mem _ (hseen j o' (by omega) ho')) hr
    refine ⟨fun i o' hi ho' => ?_, fun i j oi oj hi hj hoi hoj => ?_⟩
    · by_cases hik : i = k
      · subst hik
        obtain rfl := Option.some.inj (ho.symm.trans ho')
        intro e he hb
        have := List.all_eq_true.1 ha e he
        rw [hb] at this
        simp only [Bool.not_true, Bool.false_or] at this
        exact Nat.le_of_ble_eq_true this
      · exact i1 i o' (by omega) ho'
    · by_cases hik : i = k
      · subst hik
        obtain rfl := Option.some.inj (ho.symm.trans hoi)
        have := List.all_eq_true.1 hs _ (hseen j oj hj hoj)
        simp only [Bool.or_eq_true, Bool.and_eq_true, Bool.not_eq_true'] at this
        rcases this with h | ⟨h1, h2⟩
        · exact .inl h
        · refine .inr ⟨fun d hd hm => ?_, fun d hd hm => ?_⟩
          · rw [hd] at h1
            have h9 : inL d (looksAll ops o) = false := h1
            rw [inL_iff.2 hm] at h9; cases h9
          · rw [hd] at h2
            have h9 : inL d (looksAll ops oj) = false := h2
            rw [inL_iff.2 hm] at h9; cases h9
      · exact i2 i j oi oj (by omega) hj hoi hoj

theorem dstsOk_go : ∀ (l : List Oper) (m : Nat), dstsOk l m = true → (∀ (i : Nat) o d, l[i]? = some o → o.dst = some d → Nat.testBit m d = false) ∧ ∀ (i j : Nat) oi oj d, i ≠ j → l[i]? = some oi → l[j]? = some oj → oi.dst = some d → oj.dst ≠ some d := by
  intro l
  induction l with
  | nil => intro m _; exact ⟨fun i o d h => by simp at h, fun i j oi oj d _ h => by simp at h⟩
  | cons o l ih =>
    intro m h
    cases hd : o.dst with
    | none =>
      simp only [dstsOk, hd] at h
      obtain ⟨i1, i2⟩ := ih m h
      refine ⟨fun i o' d ho hd' => ?_, fun i j oi oj d hij hi hj hdi => ?_⟩
      · cases i with
        | zero => simp at ho; subst ho; rw [hd] at hd'; cases hd'
        | succ i => exact i1 i o' d (by simpa using ho) hd'
      · cases i with
        | zero => simp at hi; subst hi; rw [hd] at hdi; cases hdi
        | succ i =>
          cases j with
          | zero => simp at hj; subst hj; rw [hd]; simp
          | succ j => exact i2 i j oi oj d (by omega) (by simpa using hi) (by simpa using hj) hdi
    | some d0 =>
      simp only [dstsOk, hd] at h
      cases hb : Nat.testBit m d0 with
      | true => rw [hb, cond_true] at h; cases h
      | false =>
        rw [hb, cond_false, force_eq] at h
        obtain ⟨i1, i2⟩ := ih _ h
        have hbit : ∀ d, Nat.testBit (Nat.lor m (Nat.shiftLeft 1 d0)) d = false → Nat.testBit m d = false ∧ d ≠ d0 := fun d hx => by
          have hx : Nat.testBit (m ||| (1 <<< d0)) d = false := hx
          rw [Nat.testBit_or, Bool.or_eq_false_iff] at hx
          refine ⟨hx.1, fun e => ?_⟩
          subst e
          have := hx.2
          rw [Nat.testBit_shiftLeft] at this
          simp at this
        refine ⟨fun i o' d ho hd' => ?_, fun i j oi oj d hij hi hj hdi => ?_⟩
        · cases i with
          | zero => simp at ho; subst ho; rw [hd] at hd'; obtain rfl := Option.some.inj hd'; exact hb
          | succ i => exact (hbit d (i1 i o' d (by simpa using ho) hd')).1
        · cases i with
          | zero =>
            simp at hi; subst hi
            rw [hd] at hdi
            obtain rfl := Option.some.inj hdi
            cases j with
            | zero => exact absurd rfl hij
            | succ j => exact fun hdj => (hbit _ (i1 j oj _ (by simpa using hj) hdj)).2 rfl
          | succ i =>
            cases j with
            | zero =>
              simp at hj; subst hj
              rw [hd]
              intro e
              obtain rfl := Option.some.inj e
              exact (hbit _ (i1 i oi _ (by simpa using hi) hdi)).2 rfl
            | succ j => exact i2 i j oi oj d (by omega) (by simpa using hi) (by simpa using hj) hdi

theorem regOk {ops : Array Oper} (h1 : dstsOk ops.toList 0 = true) (h2 : regionOk ops (numbered ops) [] = true) : RegOk ops := by
  obtain ⟨a, b⟩ := regionOk_go (numbered ops) 0 [] (fun j => by simp) (fun j o hj => absurd hj (by omega)) h2
  obtain ⟨-, c⟩ := dstsOk_go ops.toList 0 h1
  exact ⟨fun i o => a i o (Nat.zero_le _), fun i j oi oj hj => b i j oi oj (Nat.zero_le _) hj, fun i j oi oj d hij hi hj => c i j oi oj d hij (by rw [Array.getElem?_toList]; exact hi) (by rw [Array.getElem?_toList]; exact hj)⟩

end statics

/-! ### The run in the order of the text -/
section trace
variable {Γ : Cx}

/-- told apart -/
def Apart (f g : Foot) : Prop := f.wr.apart g.rd = true ∧ f.wr.apart g.wr = true ∧ f.rd.apart g.wr = true ∧ ∀ b, g.lo ≤ b → b < g.hi → f.rd.get (key b 0) = none ∧ f.wr.get (key b 0) = none

theorem noneMade_iff {rd wr : Tr Unit} : ∀ (n b : Nat), noneMade rd wr n b = true → ∀ k, b ≤ k → k < b + n → rd.get (key k 0) = none ∧ wr.get (key k 0) = none := by
  intro n
  induction n with
  | zero => intro b _ k h1 h2; omega
  | succ n ih =>
    intro b h k h1 h2
    simp only [noneMade, Bool.and_eq_true, Option.isNone_iff_eq_none] at h
    by_cases hk : k = b
    · subst hk; exact h.1
    · exact ih (b + 1) h.2 k (by omega) (by omega)

theorem apartFrom_mem {b : Nat} {f : Foot} : ∀ {l : List (Nat × Foot)}, apartFrom b f l = true → ∀ e ∈ l, Nat.testBit b e.1 = true ∨ Apart f e.2 := by
  intro l
  induction l with
  | nil => intro _ e he; cases he
  | cons e l ih =>
    intro h e' he'
    simp only [apartFrom, Bool.and_eq_true, Bool.or_eq_true] at h
    rcases List.mem_cons.1 he' with rfl | he'
    · rcases h.1 with h | ⟨⟨⟨h1, h2⟩, h3⟩, h4⟩
      · exact .inl h
      · exact .inr ⟨h1, h2, h3, fun c hc hc' => noneMade_iff _ _ h4 c hc (by show c < e'.2.lo + (e'.2.hi - e'.2.lo); omega)⟩
    · exact ih h.2 e' he'

/-- the state with fresh marks -/
def bare (h : Tr IObj) (n : Nat) : HS := { h := h, nx := n, wm := n, rd := .e, wr := .e }

/-- The run, step by step: the temporaries, the heaps, the next numbers, the answers, what was touched, whether it was run. -/
structure Trace (Γ : Cx) (call : CallF) (size : Nat) (ops : Array Oper) (T : Nat → Env) (h : Nat → Tr IObj) (n : Nat → Nat) (v : Nat → Value) (f : Nat → Foot) (run : Nat → Bool) (k N : Nat) : Prop where
  wants : ∀ (i : Nat) o, k ≤ i → i < N → ops[i]? = some o → Go.Ideal.wants ops o.guard (T i) = some (run i)
  yes : ∀ (i : Nat) o, k ≤ i → i < N → ops[i]? = some o → run i = true → ∃ q, anyOp o.op Γ call (T i) (bare (h i) (n i)) = some (v i, q) ∧ q.h = h (i + 1) ∧ q.nx = n (i + 1) ∧ f i = ⟨q.rd, q.wr, n i, n (i + 1)⟩
  no : ∀ (i : Nat) o, k ≤ i → i < N → ops[i]? = some o → run i = false → v i = undefV ∧ h (i + 1) = h i ∧ n (i + 1) = n i ∧ f i = ⟨.e, .e, n i, n i⟩
  put : ∀ (i : Nat) o, k ≤ i → i < N → ops[i]? = some o → Go.Ideal.put o.dst size (T i) (v i) = some (T (i + 1))
  apart : ∀ (i j : Nat), k ≤ i → i < N → j < i → Nat.testBit (bits ops i) j = true ∨ Apart (f i) (f j)

theorem apart_empty {g : Foot} {n : Nat} : Apart ⟨.e, .e, n, n⟩ g := ⟨rfl, rfl, rfl, fun _ _ _ => ⟨Tr.get_e _, Tr.get_e _⟩⟩
theorem Tr.apart_e {α : Type} (t : Tr α) : t.apart (.e : Tr Unit) = true := by cases t <;> rfl
theorem emptyTr_eq {α : Type} {t : Tr α} (h : emptyTr t = true) : t = .e := by cases t <;> first | rfl | cases h

theorem trace_of {call : CallF} {size : Nat} {ops : Array Oper} : ∀ (l : List (Oper × Nat × Nat)) (k : Nat) (seen : List (Nat × Foot)) (T0 T1 : Env) (s s' : HS) (g : Nat → Foot), (∀ j, l[j]? = (numbered ops)[k + j]?) →
    (∀ j, j < k → (j, g j) ∈ seen ∨ ((g j).rd = .e ∧ (g j).wr = .e ∧ (g j).lo = (g j).hi)) → runDraw Γ call size ops l seen T0 s = some (T1, s') →
    ∃ T h n v f run, T k = T0 ∧ h k = s.h ∧ n k = s.nx ∧ T (k + l.length) = T1 ∧ h (k + l.length) = s'.h ∧ n (k + l.length) = s'.nx ∧ (∀ j, j < k → f j = g j) ∧ Trace Γ call size ops T h n v f run k (k + l.length) := by
  intro l
  induction l with
  | nil =>
    intro k seen T0 T1 s s' g _ _ hr
    simp only [runDraw, pure_eq, Prod.mk.injEq] at hr
    obtain ⟨rfl, rfl⟩ := hr
    exact ⟨fun _ => T1, fun _ => s'.h, fun _ => s'.nx, fun _ => undefV, g, fun _ => false, rfl, rfl, rfl, rfl, rfl, rfl, fun _ _ => rfl,
      ⟨fun i o h1 h2 => by simp at h2; omega, fun i o h1 h2 => by simp at h2; omega, fun i o h1 h2 => by simp at h2; omega, fun i o h1 h2 => by simp at h2; omega, fun i j h1 h2 => by simp at h2; omega⟩⟩
  | cons p l ih =>
    intro k seen T0 T1 s s' g hl hseen hr
    have h0 := hl 0
    simp only [List.getElem?_cons_zero, Nat.add_zero] at h0
    rw [numbered_get] at h0
    obtain ⟨o, ho, hp⟩ : ∃ o, ops[k]? = some o ∧ p = (o, k, bits ops k) := by
      cases hk : ops[k]? with
      | none => rw [hk] at h0; cases h0
      | some o => rw [hk] at h0; exact ⟨o, rfl, Option.some.inj h0⟩
    subst hp
    have hl' : ∀ j, l[j]? = (numbered ops)[k + 1 + j]? := fun j => by have := hl (j + 1); rw [show k + 1 + j = k + (j + 1) by omega]; simpa using this
    simp only [runDraw, have_eq] at hr
    obtain ⟨b, hb, hr⟩ := hr
    -- the step, and the rest
    have step : ∃ v0 f0 T' s1 seen', Go.Ideal.put o.dst size T0 v0 = some T' ∧ runDraw Γ call size ops l seen' T' s1 = some (T1, s') ∧
        (b = true → ∃ q, anyOp o.op Γ call T0 (bare s.h s.nx) = some (v0, q) ∧ q.h = s1.h ∧ q.nx = s1.nx ∧ f0 = ⟨q.rd, q.wr, s.nx, s1.nx⟩) ∧
        (b = false → v0 = undefV ∧ s1.h = s.h ∧ s1.nx = s.nx ∧ f0 = ⟨.e, .e, s.nx, s.nx⟩) ∧
        (∀ j, j < k → Nat.testBit (bits ops k) j = true ∨ Apart f0 (g j)) ∧ (∀ e ∈ seen, e ∈ seen') ∧ ((k, f0) ∈ seen' ∨ (f0.rd = .e ∧ f0.wr = .e ∧ f0.lo = f0.hi)) := by
      cases b with
      | true =>
        simp only [cond_true, bind_eq, need_eq, have_eq] at hr
        obtain ⟨r, s1, h1, hap, T', hput, h2⟩ := hr
        simp only [fresh, Opt.go_eq, Option.some.injEq, Prod.mk.injEq] at h1
        obtain ⟨q, hq, rfl, rfl⟩ := h1
        refine ⟨q.1, ⟨q.2.rd, q.2.wr, s.nx, q.2.nx⟩, T', _, _, hput, h2, fun _ => ⟨q.2, hq, rfl, rfl, rfl⟩, (fun h => by cases h), fun j hj => ?_, fun e he => ?_, ?_⟩
        · rcases hseen j hj with h | ⟨e1, e2, e3⟩
          · exact apartFrom_mem hap _ h
          · refine .inr ⟨?_, ?_, ?_, fun c hc hc' => by omega⟩
            · rw [e1]; exact Tr.apart_e _
            · rw [e2]; exact Tr.apart_e _
            · rw [e2]; exact Tr.apart_e _
        · unfold seeing
          cases (emptyTr q.2.rd && emptyTr q.2.wr && Nat.beq s.nx q.2.nx) with
          | true => exact he
          | false => exact List.mem_cons_of_mem _ he
        · unfold seeing
          cases hc : (emptyTr q.2.rd && emptyTr q.2.wr && Nat.beq s.nx q.2.nx) with
          | true =>
            simp only [Bool.and_eq_true] at hc
            exact .inr ⟨emptyTr_eq hc.1.1, emptyTr_eq hc.1.2, Nat.eq_of_beq_eq_true hc.2⟩
          | false => exact .inl (List.mem_cons_self ..)
      | false =>
        simp only [cond_false, have_eq] at hr
        obtain ⟨T', hput, h2⟩ := hr
        exact ⟨undefV, ⟨.e, .e, s.nx, s.nx⟩, T', s, seen, hput, h2, (fun h => by cases h), fun _ => ⟨rfl, rfl, rfl, rfl⟩, fun j hj => .inr apart_empty, fun e he => he, .inr ⟨rfl, rfl, rfl⟩⟩
    obtain ⟨v0, f0, T', s1, seen', hput, h2, hyes, hno, hap, hsub, hme⟩ := step
    obtain ⟨T, h, n, v, f, run, e1, e2, e3, e4, e5, e6, e7, tr⟩ := ih (k + 1) seen' T' T1 s1 s' (fun j => if j = k then f0 else g j) hl' (fun j hj => by
      by_cases hjk : j = k
      · subst hjk; simp only [if_true]; exact hme
      · simp only [if_neg hjk]; exact (hseen j (by omega)).imp (hsub _) id) h2
    have hlen : k + 1 + l.length = k + (l.length + 1) := by omega
    have fk : f k = f0 := by have := e7 k (by omega); simpa using this
    have fj : ∀ j, j < k → f j = g j := fun j hj => by have := e7 j (by omega); rw [this, if_neg (by omega)]
    refine ⟨fun j => if j = k then T0 else T j, fun j => if j = k then s.h else h j, fun j => if j = k then s.nx else n j, fun j => if j = k then v0 else v j, f, fun j => if j = k then b else run j, by simp, by simp, by simp,
      by simp only [List.length_cons]; rw [if_neg (by omega), ← hlen]; exact e4, by simp only [List.length_cons]; rw [if_neg (by omega), ← hlen]; exact e5, by simp only [List.length_cons]; rw [if_neg (by omega), ← hlen]; exact e6, fj, ?_⟩
    simp only [List.length_cons]
    rw [← hlen]
    refine ⟨fun i o' hi hi' ho' => ?_, fun i o' hi hi' ho' hrun => ?_, fun i o' hi hi' ho' hrun => ?_, fun i o' hi hi' ho' => ?_, fun i j hi hi' hj => ?_⟩
    · by_cases hik : i = k
      · subst hik; obtain rfl := Option.some.inj (ho.symm.trans ho'); simp only [if_true]; exact hb
      · simp only [if_neg hik]; exact tr.wants i o' (by omega) hi' ho'
    · by_cases hik : i = k
      · subst hik
        obtain rfl := Option.some.inj (ho.symm.trans ho')
        simp only [if_true] at hrun ⊢
        rw [if_neg (by omega : ¬ i + 1 = i), if_neg (by omega : ¬ i + 1 = i), e2, e3, fk]
        exact hyes hrun
      · simp only [if_neg hik] at hrun ⊢
        rw [if_neg (by omega : ¬ i + 1 = k), if_neg (by omega : ¬ i + 1 = k)]
        exact tr.yes i o' (by omega) hi' ho' hrun
    · by_cases hik : i = k
      · subst hik
        simp only [if_true] at hrun ⊢
        rw [if_neg (by omega : ¬ i + 1 = i), if_neg (by omega : ¬ i + 1 = i), e2, e3, fk]
        exact hno hrun
      · simp only [if_neg hik] at hrun ⊢
        rw [if_neg (by omega : ¬ i + 1 = k), if_neg (by omega : ¬ i + 1 = k)]
        exact tr.no i o' (by omega) hi' ho' hrun
    · by_cases hik : i = k
      · subst hik
        obtain rfl := Option.some.inj (ho.symm.trans ho')
        simp only [if_true]
        rw [if_neg (by omega : ¬ i + 1 = i), e1]; exact hput
      · simp only [if_neg hik]
        rw [if_neg (by omega : ¬ i + 1 = k)]
        exact tr.put i o' (by omega) hi' ho'
    · by_cases hik : i = k
      · subst hik; rw [fk, fj j hj]; exact hap j hj
      · exact tr.apart i j (by omega) hi' hj

end trace
end Go.Ideal

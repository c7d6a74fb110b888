/-
  What an operation does in the ideal heap, it does in the world: the other builtins. Conditions: none.
-/
import Derived.Test.YtpoaiachllclhaaGreatDoorOps9
namespace Go.Ideal
open Go

theorem goI_eq (n : Nat) : goI n = goInt n := force_eq n _

section ops
variable {P : Program} {Γ : Cx} {ρ : Rho} {s s' : HS} {w : World}

theorem sliceParts_eq {x : Value} {p : Option Addr × Nat × Nat} (h : sliceParts x = some p) : x = .slice p.1 p.2.1 p.2.2 := by
  cases x <;> simp only [sliceParts] at h <;> try (cases h; done)
  obtain rfl := Option.some.inj h
  rfl

theorem copyV_ok (C : CxOk P Γ) {ts : Array TypeId} {ta tt : TypeId} {d d' x x' v : Value} (h : copyV Γ ta d x s = some (v, s')) (h0 : ts[0]? = some ta) (pre : Pre Γ ρ s w s') (hd : VR ρ d d') (hx : VR ρ x x') :
    DoesV P Γ ρ s w (Builtin.copy_ ts tt #[d', x']) v s' := by
  simp only [copyV, have_eq, bind_eq, pure_eq, Prod.mk.injEq] at h
  obtain ⟨ti, hti, elem, hel, te, hte, m, hm, p, hp, cs, s1, hE, u, s2, hW, rfl, rfl⟩ := h
  have hu0 := elemTy_eq hel
  obtain ⟨hu, -, -, -, -⟩ := ty_run C hti
  rw [hu0] at hu
  obtain ⟨-, hse, -, -, -⟩ := ty_run C hte
  obtain rfl := sliceParts_eq hp
  obtain ⟨pb, pl, pc⟩ := p
  simp only at hE hW hd
  have hlen := lenV_ok (P := P) hm hx
  obtain ⟨e1, n1, cs', r1, v1⟩ := elems_ok (P := P) hE pre.inv hx
  have hmin : Nat.min m pl = min m pl := rfl
  cases pb with
  | none =>
    simp only [writeBase, pure_eq, Prod.mk.injEq] at hW
    obtain ⟨-, rfl⟩ := hW
    cases hd
    refine .of_run pre e1 ?_ (by rw [goI_eq]; exact .int _ _)
    simp only [Builtin.copy_, h0, List.getElem?_toArray, List.getElem?_cons_zero, List.getElem?_cons_succ, Sem.run_bind, hu, Result.andThen_ok, hse, hlen, hmin, r1, Sem.run_pure]
    rfl
  | some a =>
    obtain ⟨b, o, sp⟩ := a
    simp only [writeBase] at hW
    cases hd with
    | sl b o n' c0 c' rb p1 p2 p3 =>
      have inv1 : Inv Γ ρ s1.h w := by rw [e1]; exact pre.inv
      rw [addOff_eq] at hW
      obtain ⟨w1, q1, q2⟩ := writeCells_ok (P := P) hW inv1 p1 p2 v1
      refine ⟨goInt (min m pl : Nat), w1, ρ, ?_, by rw [goI_eq]; exact .int _ _, ?_⟩
      · simp only [Builtin.copy_, h0, List.getElem?_toArray, List.getElem?_cons_zero, List.getElem?_cons_succ, Sem.run_bind, hu, Result.andThen_ok, hse, hlen, hmin, r1, Sem.run_pure]
        rw [Nat.add_zero] at q1
        rw [q1]; rfl
      · exact ⟨q2.ext, fun i r hi => .inl (by rcases q2.dom i r hi with h | ⟨h, h'⟩; exact h; exact hi), q2.inv, q2.os, q2.tape, q2.out, q2.size, by rw [← e1]; exact q2.own, by rw [← e1]; exact q2.frame, by rw [← e1]; exact q2.ownL⟩
    | slg b o c' a' rb p1 p2 =>
      simp only [writeCells, need_eq] at hW
      obtain ⟨-, hW⟩ := hW
      obtain ⟨c, e, l, st, c2, g1, -⟩ := hwrite_spec hW
      rw [e1] at g1
      have : (addOff ⟨b, o, none⟩ 0).block = b := by rw [addOff_eq]
      rw [this] at g1
      obtain ⟨hr, -⟩ := (pre.inv.obj b _ rb g1 p1).1 p2
      cases hr

theorem lenB_ok (C : CxOk P Γ) {ts : Array TypeId} {ta tt : TypeId} {x x' v : Value} (h : lenB Γ ta x s = some (v, s')) (h0 : ts[0]? = some ta) (pre : Pre Γ ρ s w s') (hx : VR ρ x x') :
    DoesV P Γ ρ s w (Builtin.len_ ts tt #[x']) v s' := by
  simp only [lenB, have_eq] at h
  obtain ⟨ti, hti, h⟩ := h
  obtain ⟨hu, -, -, -, -⟩ := ty_run C hti
  cases hfs : ti.u <;> rw [hfs] at h hu <;> dsimp only at h <;> try (simp [EM.fail] at h; done)
  · cases x <;> (try dsimp only at h) <;> try (simp [EM.fail] at h; done)
    simp only [pure_eq, Prod.mk.injEq] at h
    obtain ⟨rfl, rfl⟩ := h
    cases hx
    refine .of_run pre rfl ?_ (by rw [goI_eq]; exact .int _ _)
    simp only [Builtin.len_, h0, List.getElem?_toArray, List.getElem?_cons_zero, Sem.run_bind, hu, Result.andThen_ok, Sem.run_pure]
    rfl
  · rename_i arr
    simp only [have_eq] at h
    obtain ⟨ta, hta, h⟩ := h
    obtain ⟨hu2, -, -, -, -⟩ := ty_run C hta
    cases hfa : ta.u <;> rw [hfa] at h hu2 <;> dsimp only at h <;> try (simp [EM.fail] at h; done)
    simp only [pure_eq, Prod.mk.injEq] at h
    obtain ⟨rfl, rfl⟩ := h
    refine .of_run pre rfl ?_ (by rw [goI_eq]; exact .int _ _)
    simp only [Builtin.len_, h0, List.getElem?_toArray, List.getElem?_cons_zero, Sem.run_bind, hu, Result.andThen_ok, hu2, Sem.run_pure]
    rfl
  · cases x <;> (try dsimp only at h) <;> try (simp [EM.fail] at h; done)
    case' float kk nn => cases kk <;> (try dsimp only at h) <;> try (simp [EM.fail] at h; done)
    all_goals simp only [pure_eq, Prod.mk.injEq] at h
    all_goals obtain ⟨rfl, rfl⟩ := h
    all_goals cases hx
    all_goals
      refine .of_run pre rfl ?_ (by rw [goI_eq]; exact .int _ _)
      simp only [Builtin.len_, h0, List.getElem?_toArray, List.getElem?_cons_zero, Sem.run_bind, hu, Result.andThen_ok, Sem.run_pure]
      rfl
  · simp only [pure_eq, Prod.mk.injEq] at h
    obtain ⟨rfl, rfl⟩ := h
    refine .of_run pre rfl ?_ (by rw [goI_eq]; exact .int _ _)
    simp only [Builtin.len_, h0, List.getElem?_toArray, List.getElem?_cons_zero, Sem.run_bind, hu, Result.andThen_ok, Sem.run_pure]
    rfl
  · simp only [bind_eq, pure_eq, Prod.mk.injEq] at h
    obtain ⟨es, s1, h1, rfl, rfl⟩ := h
    obtain ⟨e1, n1, es', a1, a2⟩ := mapOf_ok (P := P) h1 pre.inv hx
    have hl : es.length = es'.size := by simpa using a1.1
    refine .of_run pre e1 ?_ (by rw [goI_eq]; exact .int _ _)
    rcases a2 with ⟨rfl, rfl⟩ | ⟨b, clock, rfl, hg⟩
    · simp only [Builtin.len_, h0, List.getElem?_toArray, List.getElem?_cons_zero, Sem.run_bind, hu, Result.andThen_ok, Sem.run_pure, hl]
      rfl
    · simp only [Builtin.len_, h0, List.getElem?_toArray, List.getElem?_cons_zero, Sem.run_bind, hu, Result.andThen_ok, hg, Sem.run_pure, hl]
      rfl

theorem zeroCells_list (z : Array Value) (n : Nat) (l : List Value) (hl : z = l.toArray) : (Builtin.zeroCells z n).toList = repCells l n := by
  subst hl
  induction n with
  | zero => simp [Builtin.zeroCells, repCells]
  | succ n ih =>
    apply List.ext_getElem?
    intro i
    have hsz : (Builtin.zeroCells l.toArray (n + 1)).toList.length = (n + 1) * l.length := by simp [Builtin.zeroCells]
    have hrep : ∀ m, (repCells l m).length = m * l.length := fun m => by
      induction m with
      | zero => simp [repCells]
      | succ m ih => simp only [repCells, List.length_append, ih, Nat.succ_mul]; omega
    have hget : ∀ m j, j < m * l.length → (Builtin.zeroCells l.toArray m).toList[j]? = some (l.toArray[j % l.length]!) := fun m j hj => by
      rw [Array.getElem?_toList]
      simp [Builtin.zeroCells, hj]
    by_cases hi : i < (n + 1) * l.length
    · rw [hget _ _ hi]
      simp only [repCells]
      have hpos : 0 < l.length := by rcases Nat.eq_zero_or_pos l.length with e | e; (rw [e] at hi; omega); exact e
      by_cases hil : i < l.length
      · rw [List.getElem?_append_left hil, Nat.mod_eq_of_lt hil]
        simp [hil]
      · rw [List.getElem?_append_right (by omega), ← ih, hget n (i - l.length) (by rw [Nat.succ_mul] at hi; omega)]
        have : (i - l.length) % l.length = i % l.length := by
          rw [← Nat.mod_eq_sub_mod (by omega)]
        rw [this]
    · rw [List.getElem?_eq_none (by omega), List.getElem?_eq_none (by rw [hrep]; omega)]

theorem repCells_VRs {l : List Value} (h : VRs ρ l l) (n : Nat) : VRs ρ (repCells l n) (repCells l n) := by
  induction n with
  | zero => exact VRs.nil ρ
  | succ n ih => exact h.append ih

theorem clearV_ok (C : CxOk P Γ) {ts : Array TypeId} {ta tt : TypeId} {x x' : Value} {u : Unit} (h : clearV Γ ta x s = some (u, s')) (h0 : ts[0]? = some ta) (pre : Pre Γ ρ s w s') (hx : VR ρ x x') :
    DoesV P Γ ρ s w (Builtin.clear_ ts tt #[x']) noneV s' := by
  simp only [clearV, have_eq] at h
  obtain ⟨ti, hti, h⟩ := h
  obtain ⟨hu, -, -, -, -⟩ := ty_run C hti
  have hno : VR ρ noneV (.tuple #[]) := VR.tup' (VRs.nil ρ)
  have idle : (x' = .map none ∨ (∃ n c, x' = .slice none n c) ∨ ∃ a c, x' = .slice a 0 c) → s'.h = s.h → DoesV P Γ ρ s w (Builtin.clear_ ts tt #[x']) noneV s' := by
    intro hc hh
    refine .of_run pre hh ?_ hno
    rcases hc with rfl | ⟨n, c, rfl⟩ | ⟨a, c, rfl⟩
    · simp only [Builtin.clear_, h0, List.getElem?_toArray, List.getElem?_cons_zero, Sem.run_bind, hu, Result.andThen_ok, Sem.run_pure]
    · simp only [Builtin.clear_, h0, List.getElem?_toArray, List.getElem?_cons_zero, Sem.run_bind, hu, Result.andThen_ok, Sem.run_pure]
    · cases a <;> simp only [Builtin.clear_, h0, List.getElem?_toArray, List.getElem?_cons_zero, Sem.run_bind, hu, Result.andThen_ok, Sem.run_pure]
  split at h
  · simp only [pure_eq, Prod.mk.injEq] at h
    obtain ⟨-, rfl⟩ := h
    cases hx
    exact idle (.inl rfl) rfl
  · simp only [pure_eq, Prod.mk.injEq] at h
    obtain ⟨-, rfl⟩ := h
    cases hx
    exact idle (.inr (.inl ⟨_, _, rfl⟩)) rfl
  · simp only [pure_eq, Prod.mk.injEq] at h
    obtain ⟨-, rfl⟩ := h
    cases hx <;> exact idle (.inr (.inr ⟨_, _, rfl⟩)) rfl
  · rename_i a n c
    simp only [have_eq] at h
    obtain ⟨elem, hel, te, hte, hW⟩ := h
    have hu0 := elemTy_eq hel
    rw [hu0] at hu
    obtain ⟨-, -, -, -, z, hzr, hzc, hzo⟩ := ty_run C hte
    obtain ⟨hzv, -, -, hzcells⟩ := zero_VRs (ρ := ρ) hzo hzc
    cases hx with
    | sl b o n' c0 c' rb p1 p2 p3 =>
      have hz : (Builtin.zeroCells z.cells (n + 1)).toList = repCells te.zero (n + 1) := zeroCells_list _ _ _ hzcells
      obtain ⟨w1, q1, q2⟩ := writeCells_ok (P := P) hW pre.inv p1 p2 (repCells_VRs hzv (n + 1))
      refine ⟨.tuple #[], w1, ρ, ?_, VR.tup' (VRs.nil ρ), q2⟩
      simp only [Builtin.clear_, h0, List.getElem?_toArray, List.getElem?_cons_zero, Sem.run_bind, hu, Result.andThen_ok, hzr, hz, q1, Sem.run_pure]
  · rename_i r
    simp only [bind_eq, have_eq] at h
    obtain ⟨o, s1, h1, e, h2, h⟩ := h
    obtain ⟨y, g1, rfl, e1, n1⟩ := hget_spec h1
    cases y <;> simp only [strip, entries] at h2 <;> try (cases h2; done)
    rename_i es clock
    obtain rfl := Option.some.inj h2
    obtain ⟨y2, d1, d2, d3, d4, d5⟩ := hset_spec h
    rw [e1] at d1 d4
    cases hx with
    | map r rb p1 =>
      obtain ⟨es', a1, a2, a3⟩ := pre.inv.obj _ _ rb g1 p1
      have hget := run_getObj (P := P) (w := w) a1 (by simp)
      have hblt : rb.blk < w.heap.size := (Array.getElem?_eq_some_iff.1 a1).1
      refine ⟨.tuple #[], { w with heap := w.heap.setIfInBounds rb.blk (.map #[] clock) }, ρ, ?_, VR.tup' (VRs.nil ρ), ?_⟩
      · simp only [Builtin.clear_, h0, List.getElem?_toArray, List.getElem?_cons_zero, Sem.run_bind, hu, Result.andThen_ok, hget, run_setObj (P := P) (o' := .map #[] clock) a1 (by simp), Sem.run_pure]
      · exact Stp.put (x' := .map [] clock) (pre.inv.lim _ _ p1) pre.inv g1 rfl p1 a3 d4 ⟨#[], by rw [heap_set hblt, if_pos rfl], ⟨rfl, fun j e1 e2 he1 => by simp at he1⟩, a3⟩
  · simp [EM.fail] at h

theorem minmaxFrom_ok {big : Bool} {k : IntKind} {f : Value → Value → Sem Value} (hf : ∀ a b w, (f (.int k a) (.int k b)).run P w = .ok (.int k (bif bif big then decide (b > a) else decide (b < a) then b else a)) w) :
    ∀ {l l' : List Value} {a : Int} {v : Value}, minmaxFrom big k l a = some v → VRs ρ l l' → ∀ w, (l'.foldlM f (.int k a)).run P w = .ok v w ∧ ∃ n, v = .int k n := by
  intro l
  induction l with
  | nil =>
    intro l' a v h hl w
    obtain rfl := hl.nil_ex
    simp only [minmaxFrom] at h
    obtain rfl := Option.some.inj h
    exact ⟨rfl, _, rfl⟩
  | cons x l ih =>
    intro l' a v h hl w
    obtain ⟨x', r', rfl, hx, hr⟩ := hl.ex
    cases x <;> simp only [minmaxFrom] at h <;> try (cases h; done)
    rename_i k' b
    split at h
    · rename_i hk
      subst hk
      cases hx
      obtain ⟨i1, i2⟩ := ih h hr w
      refine ⟨?_, i2⟩
      simp only [List.foldlM_cons, Sem.run_bind, hf, Result.andThen_ok]
      exact i1
    · cases h

theorem minmax_ok {big : Bool} {f : Value → Value → Sem Value} (hf : ∀ k a b w, (f (.int k a) (.int k b)).run P w = .ok (.int k (bif bif big then decide (b > a) else decide (b < a) then b else a)) w)
    {l l' : List Value} {v : Value} (h : minmax big l = some v) (hl : VRs ρ l l') (w : World) :
    (match l' with | [] => (stuck "" : Sem Value) | x :: rest => rest.foldlM f x).run P w = .ok v w ∧ VR ρ v v := by
  cases l with
  | nil => cases h
  | cons x l =>
    obtain ⟨x', r', rfl, hx, hr⟩ := hl.ex
    cases x <;> simp only [minmax] at h <;> try (cases h; done)
    cases hx
    obtain ⟨i1, n, rfl⟩ := minmaxFrom_ok (hf _) h hr w
    exact ⟨i1, .int _ _⟩

theorem min2_run (k : IntKind) (a b : Int) (w : World) : (Builtin.min2 (.int k a) (.int k b)).run P w = .ok (.int k (bif bif false then decide (b > a) else decide (b < a) then b else a)) w := by
  simp only [Builtin.min2, cond_false, Sem.run_pure]
  by_cases h : b < a <;> simp [h]
theorem max2_run (k : IntKind) (a b : Int) (w : World) : (Builtin.max2 (.int k a) (.int k b)).run P w = .ok (.int k (bif bif true then decide (b > a) else decide (b < a) then b else a)) w := by
  simp only [Builtin.max2, cond_true, Sem.run_pure]
  by_cases h : b > a <;> simp [h]

/-- a builtin of the evaluator, and the model's -/
def DoesB (P : Program) (Γ : Cx) (ρ : Rho) (s : HS) (w : World) (r : Sem Next) (v : Value) (s' : HS) : Prop :=
  ∃ v' w' ρ', r.run P w = .ok (.value v') w' ∧ VR ρ' v v' ∧ Stp Γ ρ s w ρ' s' w'

theorem DoesV.b {r : Sem Value} {v : Value} (h : DoesV P Γ ρ s w r v s') : DoesB P Γ ρ s w (do let x ← r; Pure.pure (Next.value x)) v s' := by
  obtain ⟨v', w', ρ', h1, h2, h3⟩ := h
  exact ⟨v', w', ρ', by simp only [Sem.run_bind, h1, Result.andThen_ok, Sem.run_pure], h2, h3⟩

theorem builtinV_ok (C : CxOk P Γ) {b : Builtin} {ts : Array TypeId} {tt : TypeId} {cb : Array Bool} {as as' : List Value} {v : Value} (h : builtinV b Γ ts as s = some (v, s')) (pre : Pre Γ ρ s w s') (ha : VRs ρ as as') :
    DoesB P Γ ρ s w (Go.builtin b ts tt cb as'.toArray) v s' := by
  cases b <;> simp only [builtinV] at h <;> try (simp [EM.fail] at h; done)
  · -- append
    split at h
    · rename_i x y
      simp only [have_eq] at h
      obtain ⟨t, h0, u, h1, h⟩ := h
      obtain ⟨x', r', rfl, hx, hr⟩ := ha.ex
      obtain ⟨y', r', rfl, hy, hr⟩ := hr.ex
      obtain rfl := hr.nil_ex
      exact (appendV_ok C h h0 h1 pre hx hy).b
    · simp [EM.fail] at h
  · -- clear
    split at h
    · rename_i x
      simp only [have_eq, bind_eq, pure_eq, Prod.mk.injEq] at h
      obtain ⟨t, h0, u, s1, h, rfl, rfl⟩ := h
      obtain ⟨x', r', rfl, hx, hr⟩ := ha.ex
      obtain rfl := hr.nil_ex
      exact (clearV_ok C h h0 pre hx).b
    · simp [EM.fail] at h
  · -- copy
    split at h
    · rename_i x y
      simp only [have_eq] at h
      obtain ⟨t, h0, h⟩ := h
      obtain ⟨x', r', rfl, hx, hr⟩ := ha.ex
      obtain ⟨y', r', rfl, hy, hr⟩ := hr.ex
      obtain rfl := hr.nil_ex
      exact (copyV_ok C h h0 pre hx hy).b
    · simp [EM.fail] at h
  · -- delete
    split at h
    · rename_i x y
      simp only [have_eq, bind_eq, pure_eq, Prod.mk.injEq] at h
      obtain ⟨t, h0, u, s1, h, rfl, rfl⟩ := h
      obtain ⟨x', r', rfl, hx, hr⟩ := ha.ex
      obtain ⟨y', r', rfl, hy, hr⟩ := hr.ex
      obtain rfl := hr.nil_ex
      exact (deleteV_ok C h h0 pre hx hy).b
    · simp [EM.fail] at h
  · -- len
    split at h
    · rename_i x
      simp only [have_eq] at h
      obtain ⟨t, h0, h⟩ := h
      obtain ⟨x', r', rfl, hx, hr⟩ := ha.ex
      obtain rfl := hr.nil_ex
      cases hsy : isSym x with
      | true =>
        rw [hsy, cond_true, lift_eq] at h
        obtain ⟨u, hu, hus⟩ := h
        obtain ⟨rfl, rfl⟩ := Prod.mk.inj hus
        obtain ⟨r', g1, g2⟩ := C.rule _ _ _ hu ρ pre.fix.val _ ha
        exact (DoesV.of_run pre rfl (r := Builtin.len_ ts tt #[x']) (g1 ts tt w h0) g2).b
      | false =>
        rw [hsy, cond_false] at h
        exact (lenB_ok C h h0 pre hx).b
    · simp [EM.fail] at h
  · -- max
    cases hsy : as.any isSym with
    | true =>
      rw [hsy, cond_true, lift_eq] at h
      obtain ⟨u, hu, hus⟩ := h
      obtain ⟨rfl, rfl⟩ := Prod.mk.inj hus
      obtain ⟨r', g1, g2⟩ := C.rule _ _ _ hu ρ pre.fix.val _ ha
      exact (DoesV.of_run pre rfl (r := Builtin.max_ ts tt as'.toArray) (g1 ts tt w) g2).b
    | false =>
    rw [hsy, cond_false] at h
    simp only [lift_eq, Prod.mk.injEq] at h
    obtain ⟨u, hu, rfl, rfl⟩ := h
    obtain ⟨i1, i2⟩ := minmax_ok (f := Builtin.max2) (P := P) max2_run hu ha w
    refine (DoesV.of_run pre rfl (r := Builtin.max_ ts tt as'.toArray) ?_ i2).b
    rw [← i1]; cases as' <;> first | rfl | (cases as with | nil => cases hu | cons a l => have := ha.1; simp at this)
  · cases hsy : as.any isSym with
    | true =>
      rw [hsy, cond_true, lift_eq] at h
      obtain ⟨u, hu, hus⟩ := h
      obtain ⟨rfl, rfl⟩ := Prod.mk.inj hus
      obtain ⟨r', g1, g2⟩ := C.rule _ _ _ hu ρ pre.fix.val _ ha
      exact (DoesV.of_run pre rfl (r := Builtin.min_ ts tt as'.toArray) (g1 ts tt w) g2).b
    | false =>
    rw [hsy, cond_false] at h
    simp only [lift_eq, Prod.mk.injEq] at h
    obtain ⟨u, hu, rfl, rfl⟩ := h
    obtain ⟨i1, i2⟩ := minmax_ok (f := Builtin.min2) (P := P) min2_run hu ha w
    refine (DoesV.of_run pre rfl (r := Builtin.min_ ts tt as'.toArray) ?_ i2).b
    rw [← i1]; cases as' <;> first | rfl | (cases as with | nil => cases hu | cons a l => have := ha.1; simp at this)

end ops
end Go.Ideal

/-
  What an operation does in the ideal heap, it does in the world: maps, and ranges over them. Conditions: none.
-/
import Derived.Test.YtpoaiachllclhaaGreatDoorOps5
import Derived.Laws.StructEq
namespace Go.Ideal
open Go

section ops
variable {P : Program} {Γ : Cx} {ρ : Rho} {s s' : HS} {w : World}

theorem sliceV_ok (C : CxOk P Γ) {t : TypeId} {x x' v : Value} {lo hi mx lo' hi' mx' : Option Value} (h : sliceV Γ t x lo hi mx s = some (v, s')) (pre : Pre Γ ρ s w s') (hx : VR ρ x x') (h1 : OV ρ lo lo') (h2 : OV ρ hi hi') (h3 : OV ρ mx mx') :
    DoesV P Γ ρ s w (Instr.sliceAt t x' lo' hi' mx') v s' := by
  simp only [sliceV, have_eq] at h
  obtain ⟨ti, hti, h⟩ := h
  obtain ⟨hu, -, -, -, -⟩ := ty_run C hti
  cases hfs : ti.u <;> rw [hfs] at h hu <;> dsimp only at h <;> try (simp [EM.fail] at h; done)
  · cases x <;> (try dsimp only at h) <;> try (simp [EM.fail] at h; done)
    rename_i z
    cases hx
    simp only [sliceStr, have_eq, need_eq, pure_eq, Prod.mk.injEq] at h
    obtain ⟨bd, hbd, hmx, rfl, rfl⟩ := h
    cases mx with
    | some m => cases hmx
    | none =>
      cases mx' with
      | some m => exact h3.elim
      | none =>
        obtain ⟨q1, q2, q3, m', q4, q5, q6⟩ := bounds_ok (P := P) (isS := false) hbd (Nat.le_refl z.size) h1 h2 (show OV ρ none none from trivial)
        rw [cut_eq]
        exact .of_run pre rfl (by simp only [Instr.sliceAt, Instr.slice, Sem.run_bind, hu, Result.andThen_ok, q4, Option.isSome_none, Bool.false_eq_true, if_false, Sem.run_pure]) (.str _)
  · rename_i arr
    cases x <;> (try dsimp only at h) <;> try (simp [EM.fail] at h; done)
    rename_i a0
    cases a0 <;> (try dsimp only at h) <;> try (simp [EM.fail] at h; done)
    simp only [have_eq] at h
    obtain ⟨ta, hta, h⟩ := h
    obtain ⟨hua, -, -, -, -⟩ := ty_run C hta
    cases hfa : ta.u <;> rw [hfa] at h hua <;> dsimp only at h <;> try (simp [EM.fail] at h; done)
    rename_i n elem
    cases hx with
    | ptr b o rb p1 p2 =>
      refine (sliceArr_ok C h pre p1 p2 h1 h2 h3 rfl).congr ?_
      simp only [Instr.sliceAt, Instr.slice, Sem.run_bind, hu, Result.andThen_ok, asAddr, Sem.run_pure, hua]
  · rename_i elem
    cases x <;> (try dsimp only at h) <;> try (simp [EM.fail] at h; done)
    rename_i a0 len cap
    cases a0 with
    | none =>
      simp only [have_eq, pure_eq, Prod.mk.injEq] at h
      obtain ⟨bd, hbd, te, hte, rfl, rfl⟩ := h
      obtain ⟨-, hse, -, -, -⟩ := ty_run C hte
      cases hx
      obtain ⟨q1, q2, q3, m', q4, q5, q6⟩ := bounds_ok (P := P) (isS := true) hbd (Nat.le_refl cap) h1 h2 h3
      have hm : m' = bd.2.2 := by
        cases hmx : mx.isNone with
        | true => obtain ⟨a1, a2⟩ := q5 hmx; rw [a1, a2]
        | false => exact q6 hmx
      subst hm
      refine .of_run pre rfl (v' := .slice none (bd.2.1 - bd.1) (bd.2.2 - bd.1)) ?_ (.sl0 _ _)
      simp only [Instr.sliceAt, Instr.slice, Sem.run_bind, hu, Result.andThen_ok, q4, hse, Option.map_none, ite_self, Sem.run_pure]
    | some a =>
      dsimp only at h
      obtain ⟨b, o, sp⟩ := a
      exact sliceSl_ok C hti hfs h pre hx h1 h2 h3
  · rename_i n elem
    cases x <;> (try dsimp only at h) <;> try (simp [EM.fail] at h; done)
    rename_i a0
    cases a0 <;> (try dsimp only at h) <;> try (simp [EM.fail] at h; done)
    cases hx with
    | ptr b o rb p1 p2 =>
      refine (sliceArr_ok C h pre p1 p2 h1 h2 h3 rfl).congr ?_
      simp only [Instr.sliceAt, Instr.sureAddr, Sem.run_bind, hu, Result.andThen_ok, Sem.run_pure]

/-! ### Maps -/
theorem run_getObj {r : Nat} {o : Obj} (h : w.heap[r]? = some o) (hc : ∀ c e f, o ≠ .cells c e f) : (getObj r).run P w = .ok o w := by
  unfold getObj
  cases o <;> first | (exact absurd rfl (hc _ _ _)) | (simp only [Sem.run, h])

theorem run_setObj {r : Nat} {o o' : Obj} (h : w.heap[r]? = some o) (hc : ∀ c e f, o ≠ .cells c e f) : (setObj r o').run P w = .ok () { w with heap := w.heap.setIfInBounds r o' } := by
  unfold setObj
  cases o <;> first | (exact absurd rfl (hc _ _ _)) | (simp only [Sem.run, h])

theorem keyEq_flat {k e : Value} {b : Bool} (h : keyEq k e = some b) : flat k = true ∧ flat e = true := by
  cases k <;> simp only [keyEq] at h <;> first | (cases h; done) | (cases e <;> simp only at h <;> first | (cases h; done) | exact ⟨rfl, rfl⟩)

theorem flat_eq {v v' : Value} (h : flat v = true) (hv : VR ρ v v') : v' = v := by
  cases hv <;> first | rfl | (simp [flat] at h; done)

theorem keyEq_now {kind : TypeDesc} {k e : Value} {b : Bool} (hk : (∃ i, kind = .int i) ∨ kind = .string) (h : keyEq k e = some b) (hkk : (∃ i n, k = .int i n) → ∃ i, kind = .int i) (hks : (∃ z, k = .string z) → kind = .string) :
    Instr.sameNow kind k e = some b := by
  cases k <;> simp only [keyEq] at h <;> try (cases h; done)
  · rename_i i n
    cases e <;> simp only at h <;> try (cases h; done)
    obtain ⟨j, rfl⟩ := hkk ⟨i, n, rfl⟩
    split at h
    · rename_i hkk
      subst hkk
      obtain rfl := Option.some.inj h
      simp only [Instr.sameNow, if_true]
      rfl
    · cases h
  · rename_i z
    cases e <;> simp only at h <;> try (cases h; done)
    rename_i y
    obtain rfl := hks ⟨z, rfl⟩
    obtain rfl := Option.some.inj h
    simp only [Instr.sameNow]
    rw [sameBytes_eq, beq_toListBytes, ByteArray.toList_eq, ByteArray.toList_eq]

/-- the kind of a map's keys, and a key of that kind -/
def KeyOf (u : TypeDesc) (k : Value) : Prop := (∃ i j n, u = .int i ∧ k = .int j n) ∨ ∃ z, u = .string ∧ k = .string z

theorem findE_ok {kind : TypeDesc} {k : Value} (hk : KeyOf kind k) : ∀ {es : List (Value × Value × Nat)} {es' : List MapEntry} {i : Nat} {r : Option (Nat × Value)}, findE k es i = some r → ERs ρ es es' →
    ∃ r', Instr.findNow kind k es' i = some r' ∧ (∀ j v, r = some (j, v) → i ≤ j ∧ ∃ v', r' = some (j, v') ∧ VR ρ v v' ∧ ∃ e, es[j - i]? = some e ∧ keyEq k e.1 = some true) ∧ (r = none → r' = none) := by
  intro es
  induction es with
  | nil =>
    intro es' i r h he
    obtain rfl := Option.some.inj h
    have : es' = [] := by have := he.1; simp at this; exact List.eq_nil_of_length_eq_zero this.symm
    subst this
    exact ⟨none, rfl, (fun j v h => by cases h), fun _ => rfl⟩
  | cons e es ih =>
    intro es' i r h he
    cases es' with
    | nil => have := he.1; simp at this
    | cons e' es' =>
      obtain ⟨a1, a2, a3, a4⟩ := he.2 0 e e' rfl rfl
      have he' : ERs ρ es es' := ⟨by simpa using he.1, fun j x x' hx hx' => he.2 (j + 1) x x' (by simpa using hx) (by simpa using hx')⟩
      simp only [findE, Opt.go_eq] at h
      obtain ⟨b, hb, h⟩ := h
      have hn : Instr.sameNow kind k e'.key = some b := by
        rw [a1]
        refine keyEq_now ?_ hb ?_ ?_
        · rcases hk with ⟨i, j, n, rfl, rfl⟩ | ⟨z, rfl, rfl⟩
          · exact .inl ⟨i, rfl⟩
          · exact .inr rfl
        · rcases hk with ⟨i, j, n, rfl, rfl⟩ | ⟨z, rfl, rfl⟩
          · exact fun _ => ⟨i, rfl⟩
          · rintro ⟨i, n, h⟩; cases h
        · rcases hk with ⟨i, j, n, rfl, rfl⟩ | ⟨z, rfl, rfl⟩
          · rintro ⟨z, h⟩; cases h
          · exact fun _ => rfl
      cases b with
      | true =>
        rw [cond_true] at h
        obtain rfl := Option.some.inj h
        refine ⟨some (i, e'.val), by simp only [Instr.findNow, hn], fun j v hjv => ?_, fun h => by cases h⟩
        simp only [Option.some.injEq, Prod.mk.injEq] at hjv
        obtain ⟨rfl, rfl⟩ := hjv
        exact ⟨Nat.le_refl _, e'.val, rfl, a3, e, by simp, hb⟩
      | false =>
        rw [cond_false] at h
        obtain ⟨r', b1, b2, b3⟩ := ih h he'
        refine ⟨r', by simp only [Instr.findNow, hn]; exact b1, fun j v hjv => ?_, b3⟩
        obtain ⟨c1, v', c2, c3, x, c4, c5⟩ := b2 j v hjv
        exact ⟨by omega, v', c2, c3, x, by rw [show j - i = (j - (i + 1)) + 1 by omega]; simpa using c4, c5⟩

theorem checkKey_run {e : Bool} {t : TypeId} {u : TypeDesc} {k : Value} (hu : ∀ w, (underlying t).run P w = .ok u w) (hk : KeyOf u k) (w : World) : (Instr.checkKey e 10000 t k).run P w = .ok () w := by
  obtain ⟨n, hn⟩ : ∃ n, (10000 : Nat) = n + 1 := ⟨9999, rfl⟩
  rw [hn]
  rcases hk with ⟨i, j, n, rfl, rfl⟩ | ⟨z, rfl, rfl⟩ <;> simp only [Instr.checkKey, Sem.run_bind, hu, Result.andThen_ok, Sem.run_pure]

theorem mapTy_ok {t : TypeId} {m : TI × TypeId} (h : mapTy Γ t = some m) : ∃ ti key, Γ.ty t = some ti ∧ ti.u = .map key m.2 ∧ Γ.ty key = some m.1 ∧ keyKind m.1 = true := by
  simp only [mapTy, Opt.go_eq] at h
  obtain ⟨ti, hti, h⟩ := h
  cases hfs : ti.u <;> rw [hfs] at h <;> dsimp only at h <;> try (cases h; done)
  rename_i key elem
  simp only [Opt.go_eq] at h
  obtain ⟨tk, htk, h⟩ := h
  cases hkk : keyKind tk with
  | false => rw [hkk] at h; cases h
  | true =>
    rw [hkk, cond_true] at h
    obtain rfl := Option.some.inj h
    exact ⟨ti, key, hti, hfs, htk, hkk⟩

theorem keyOf_of {tk : TI} {k : Value} (h : keyFits tk k = true) : KeyOf tk.u k ∧ flat k = true := by
  unfold keyFits at h
  split at h
  · rename_i i hi
    split at h
    · exact ⟨.inl ⟨i, _, _, hi, rfl⟩, rfl⟩
    · cases h
  · rename_i hi
    split at h
    · exact ⟨.inr ⟨_, hi, rfl⟩, rfl⟩
    · cases h
  · cases h

theorem mapOf_ok {x x' : Value} {es : List (Value × Value × Nat)} (h : mapOf x s = some (es, s')) (inv : Inv Γ ρ s.h w) (hx : VR ρ x x') :
    s'.h = s.h ∧ s'.nx = s.nx ∧ ∃ es' : Array MapEntry, ERs ρ es es'.toList ∧ ((x' = .map none ∧ es' = #[]) ∨ ∃ b clock, x' = .map (some b) ∧ (getObj b).run P w = .ok (.map es' clock) w) := by
  unfold mapOf at h
  split at h
  · simp only [pure_eq, Prod.mk.injEq] at h
    obtain ⟨rfl, rfl⟩ := h
    cases hx
    exact ⟨rfl, rfl, #[], ⟨rfl, fun j e e' h => by simp at h⟩, .inl ⟨rfl, rfl⟩⟩
  · rename_i r
    simp only [bind_eq, have_eq, pure_eq, Prod.mk.injEq] at h
    obtain ⟨o, s1, h1, e, h2, rfl, rfl⟩ := h
    obtain ⟨y, g1, rfl, e1, n1⟩ := hget_spec h1
    cases y <;> simp only [strip, entries] at h2 <;> try (cases h2; done)
    rename_i es0 clock
    obtain rfl := Option.some.inj h2
    cases hx with
    | map r rb p1 =>
      obtain ⟨es', a1, a2, a3⟩ := inv.obj r _ rb g1 p1
      exact ⟨e1, n1, es', a2, .inr ⟨_, _, rfl, run_getObj a1 (by simp)⟩⟩
  · simp [EM.fail] at h

theorem lookupV_ok (C : CxOk P Γ) {t : TypeId} {x x' k k' v : Value} {ok : Bool} (h : lookupV Γ t x k ok s = some (v, s')) (pre : Pre Γ ρ s w s') (hx : VR ρ x x') (hk : VR ρ k k') :
    DoesV P Γ ρ s w (Instr.lookup t x' k' ok) v s' := by
  simp only [lookupV, have_eq, need_eq, bind_eq] at h
  obtain ⟨m, hm, hf, te, hte, zero, hz, es, s1, h1, r, hr, h⟩ := h
  obtain ⟨ti, key, hti, hu, htk, -⟩ := mapTy_ok hm
  obtain ⟨hur, -, -, -, -⟩ := ty_run C hti
  rw [hu] at hur
  obtain ⟨huk, -, -, -, -⟩ := ty_run C htk
  obtain ⟨-, -, -, -, z, hzr, hzc, hzo⟩ := ty_run C hte
  obtain ⟨hzv, hzl, hzz, -⟩ := zero_VRs (ρ := ρ) hzo hzc
  obtain ⟨hko, hkf⟩ := keyOf_of hf
  obtain rfl := flat_eq hkf hk
  obtain ⟨e1, n1, es', a1, a2⟩ := mapOf_ok (P := P) h1 pre.inv hx
  obtain ⟨r', b1, b2, b3⟩ := findE_ok hko hr a1
  have hzero : VR ρ zero z := by
    unfold zeroV at hz
    unfold zeroOk at hzo
    simp only [Bool.and_eq_true] at hzo
    cases hagg : te.agg with
    | true =>
      rw [hagg, cond_true] at hz
      obtain rfl := Option.some.inj hz
      rw [hagg] at hzo
      cases z <;> simp at hzo
      rw [← hzc]
      simp only [cellsOf] at hzc ⊢
      simpa using hzz
    | false =>
      rw [hagg, cond_false] at hz
      rw [hagg] at hzo
      have hze : te.zero = [z] := by
        rw [← hzc]
        cases z <;> simp at hzo <;> rfl
      rw [hze] at hz
      obtain rfl := Option.some.inj hz
      exact hzz
  have find : ∀ w', (Instr.findKey key k' es'.toList).run P w' = .ok r' w' := fun w' => by
    simp only [Instr.findKey, Sem.run_bind, huk, Result.andThen_ok, b1, Sem.run_pure]
  have run : (Instr.lookup t x' k' ok).run P w = .ok (match r' with
      | some p => (if ok then .tuple #[p.2, .bool true] else p.2)
      | none => (if ok then .tuple #[z, .bool false] else z)) w := by
    unfold Instr.lookup
    rcases a2 with ⟨rfl, rfl⟩ | ⟨b, clock, rfl, hg⟩
    · simp only [Sem.run_bind, Sem.run_pure, hur, Result.andThen_ok, checkKey_run huk hko, find]
      cases r' <;> simp only [Sem.run_bind, Sem.run_pure, Result.andThen_ok, hzr]
    · simp only [Sem.run_bind, Sem.run_pure, hur, Result.andThen_ok, hg, checkKey_run huk hko, find]
      cases r' <;> simp only [Sem.run_bind, Sem.run_pure, Result.andThen_ok, hzr]
  cases r with
  | some p =>
    obtain ⟨-, v', c1, c2, -⟩ := b2 p.1 p.2 rfl
    subst c1
    simp only [pure_eq, Prod.mk.injEq] at h
    obtain ⟨rfl, rfl⟩ := h
    refine .of_run pre e1 run ?_
    cases ok with
    | true => exact VR.tup' (VRs.cons c2 (VRs.cons (.bool true) (VRs.nil _)))
    | false => exact c2
  | none =>
    have := b3 rfl
    subst this
    simp only [pure_eq, Prod.mk.injEq] at h
    obtain ⟨rfl, rfl⟩ := h
    refine .of_run pre e1 run ?_
    cases ok with
    | true => exact VR.tup' (VRs.cons hzero (VRs.cons (.bool false) (VRs.nil _)))
    | false => exact hzero

theorem setE_get (k v : Value) : ∀ (es : List (Value × Value × Nat)) (i j : Nat), (setE k v es i)[j]? = if j = i then (es[j]?).map (fun e => (k, v, e.2.2)) else es[j]? := by
  intro es
  induction es with
  | nil => intro i j; simp [setE]
  | cons e es ih =>
    intro i j
    cases i with
    | zero => cases j <;> simp [setE]
    | succ i =>
      cases j with
      | zero => simp [setE]
      | succ j => simp [setE, ih]

theorem setE_len (k v : Value) : ∀ (es : List (Value × Value × Nat)) (i : Nat), (setE k v es i).length = es.length := by
  intro es
  induction es with
  | nil => intro i; rfl
  | cons e es ih => intro i; cases i <;> simp [setE, ih]

theorem keyEq_same {k e : Value} (h : keyEq k e = some true) : e = k := by
  cases k <;> simp only [keyEq] at h <;> try (cases h; done)
  · cases e <;> simp only at h <;> try (cases h; done)
    split at h
    · rename_i hk; subst hk
      have := Option.some.inj h
      simp at this
      rw [this]
    · cases h
  · cases e <;> simp only at h <;> try (cases h; done)
    rename_i x y
    have := Option.some.inj h
    rw [sameBytes_eq] at this
    have h2 := beq_iff_eq.1 this
    cases x; cases y
    congr 1
    congr 1
    exact (Array.toList_inj.1 h2).symm

theorem sameBits_flat {k : Value} (hk : (∃ i n, k = .int i n) ∨ ∃ z, k = .string z) : ∀ n, Instr.sameBits n k k = true := by
  intro n
  rcases hk with ⟨i, m, rfl⟩ | ⟨z, rfl⟩ <;> cases n <;> simp only [Instr.sameBits] <;> first | (simp; done) | (rw [beq_toListBytes]; simp)

theorem updateV_ok (C : CxOk P Γ) {t : TypeId} {m m' k k' v v' : Value} {u : Unit} (h : updateV Γ t m k v s = some (u, s')) (pre : Pre Γ ρ s w s') (hm : VR ρ m m') (hk : VR ρ k k') (hv : VR ρ v v') :
    DoesU P Γ ρ s w (Instr.mapUpdate t m' k' v') s' := by
  simp only [updateV, have_eq, need_eq, bind_eq] at h
  obtain ⟨mt, hmt, hf, r, hr, o, s1, h1, e, h2, f, hf2, h⟩ := h
  obtain ⟨ti, key, hti, hu, htk, -⟩ := mapTy_ok hmt
  obtain ⟨hur, -, -, -, -⟩ := ty_run C hti
  rw [hu] at hur
  obtain ⟨huk, -, -, -, -⟩ := ty_run C htk
  obtain ⟨hko, hkf⟩ := keyOf_of hf
  obtain rfl := flat_eq hkf hk
  obtain ⟨y, g1, rfl, e1, n1⟩ := hget_spec h1
  cases y <;> simp only [strip, entries] at h2 <;> try (cases h2; done)
  rename_i es clock
  obtain rfl := Option.some.inj h2
  cases m <;> simp only [refOf] at hr <;> try (cases hr; done)
  rename_i mr
  cases mr <;> simp only at hr <;> try (cases hr; done)
  obtain rfl := Option.some.inj hr
  cases hm with
  | map r rb p1 =>
    obtain ⟨es', a1, a2, a3⟩ := pre.inv.obj _ _ rb g1 p1
    obtain ⟨r', b1, b2, b3⟩ := findE_ok hko hf2 a2
    have hget := run_getObj (P := P) (w := w) a1 (by simp)
    have find : ∀ w', (Instr.findKey key k' es'.toList).run P w' = .ok r' w' := fun w' => by
      simp only [Instr.findKey, Sem.run_bind, huk, Result.andThen_ok, b1, Sem.run_pure]
    have hlim := pre.inv.lim _ _ p1
    have hblt : rb.blk < w.heap.size := (Array.getElem?_eq_some_iff.1 a1).1
    cases f with
    | some p =>
      obtain ⟨-, v0, c1, -, x, c4, c5⟩ := b2 p.1 p.2 rfl
      subst c1
      obtain ⟨z, d1, d2, d3, d4, d5⟩ := hset_spec h
      rw [e1] at d1 d4
      have hxk : x.1 = k' := keyEq_same c5
      have hx0 : es[p.1]? = some x := by simpa using c4
      obtain ⟨e', f1⟩ : ∃ e', es'.toList[p.1]? = some e' := by
        have hlt : p.1 < es'.toList.length := by rw [← a2.1]; exact (List.getElem?_eq_some_iff.1 hx0).1
        exact ⟨_, List.getElem?_eq_getElem hlt⟩
      obtain ⟨f2, f3, f4, f5⟩ := a2.2 p.1 x e' hx0 f1
      have f1' : es'[p.1]? = some e' := by rw [← Array.getElem?_toList]; exact f1
      have hkt : (∃ i n, k' = .int i n) ∨ ∃ z, k' = .string z := by
        rcases hko with ⟨i, j, n, -, rfl⟩ | ⟨z, -, rfl⟩
        · exact .inl ⟨_, _, rfl⟩
        · exact .inr ⟨_, rfl⟩
      have hstay : ∀ w', (Instr.keyThatStays e'.key k').run P w' = .ok k' w' := fun w' => by
        rw [f2, hxk]
        simp only [Instr.keyThatStays, sameBits_flat hkt, if_true, Sem.run_pure]
      refine ⟨{ w with heap := w.heap.setIfInBounds rb.blk (.map (es'.modify p.1 fun e => { e with key := k', val := v' }) clock) }, ρ, ?_, ?_⟩
      · unfold Instr.mapUpdate
        simp only [Sem.run_bind, hur, Result.andThen_ok, hget, checkKey_run huk hko, find, f1', Option.map_some, Option.getD_some, hstay]
        exact run_setObj a1 (by simp)
      · refine Stp.put (x' := .map (setE k' v es p.1) clock) hlim pre.inv g1 rfl p1 a3 d4 ⟨_, by rw [heap_set hblt, if_pos rfl], ⟨?_, fun j e1 e2 he1 he2 => ?_⟩, a3⟩
        · rw [setE_len, a2.1]; simp
        · rw [setE_get] at he1
          rw [Array.getElem?_toList, Array.getElem?_modify] at he2
          by_cases hj : j = p.1
          · subst hj
            rw [if_pos rfl, hx0] at he1
            rw [if_pos rfl, f1'] at he2
            simp only [Option.map_some, Option.some.injEq] at he1 he2
            subst he1 he2
            exact ⟨rfl, hkf, hv, f5⟩
          · rw [if_neg hj] at he1
            rw [if_neg (Ne.symm hj)] at he2
            exact a2.2 j e1 e2 he1 (by rw [Array.getElem?_toList]; exact he2)
    | none =>
      have := b3 rfl
      subst this
      obtain ⟨z, d1, d2, d3, d4, d5⟩ := hset_spec h
      rw [e1] at d1 d4
      refine ⟨{ w with heap := w.heap.setIfInBounds rb.blk (.map (es'.push { key := k', val := v', born := clock }) (clock + 1)) }, ρ, ?_, ?_⟩
      · unfold Instr.mapUpdate
        simp only [Sem.run_bind, hur, Result.andThen_ok, hget, checkKey_run huk hko, find]
        exact run_setObj a1 (by simp)
      · refine Stp.put (x' := .map (es ++ [(k', v, clock)]) (Nat.succ clock)) hlim pre.inv g1 rfl p1 a3 d4 ⟨_, by rw [heap_set hblt, if_pos rfl], ⟨?_, fun j e1 e2 he1 he2 => ?_⟩, a3⟩
        · simp [a2.1]
        · rw [Array.getElem?_toList, Array.getElem?_push] at he2
          have hl : es.length = es'.size := by simpa using a2.1
          by_cases hj : j = es'.size
          · subst hj
            rw [if_pos rfl] at he2
            rw [List.getElem?_append_right (by omega), hl] at he1
            simp at he1 he2
            subst he1 he2
            exact ⟨rfl, hkf, hv, rfl⟩
          · rw [if_neg hj] at he2
            by_cases hjl : j < es.length
            · rw [List.getElem?_append_left hjl] at he1
              exact a2.2 j e1 e2 he1 (by rw [Array.getElem?_toList]; exact he2)
            · rw [Array.getElem?_eq_none (by omega)] at he2; cases he2

end ops
end Go.Ideal

/-
  What an operation does in the ideal heap, it does in the world: comparisons, cells. Conditions: none.
-/
import Derived.Test.YtpoaiachllclhaaGreatDoorOps
namespace Go.Ideal
open Go

section ops
variable {P : Program} {Γ : Cx} {ρ : Rho} {s s' : HS} {w : World}

theorem agg_list (cs : Array Value) : (.agg cs : Value) = .agg cs.toList.toArray := by simp

theorem sameLeaf_flat {k : Leaf} {x y : Value} {r : Bool} (h : sameLeaf k x y = some r) : flat x = true ∧ flat y = true := by
  cases k <;> simp only [sameLeaf] at h <;> split at h <;> first | (cases h; done) | skip
  all_goals (split at h <;> first | (cases h; done) | exact ⟨rfl, rfl⟩)

theorem plain_same {v u : Value} (hv : flat v = true) (h : VR ρ v u) : u = v := by
  unfold flat at hv
  split at hv <;> first | (cases hv; done) | (cases h; rfl)

theorem sameFlat_eq : ∀ {ks : List Leaf} {l m l' m' : List Value} {r : Bool}, sameFlat ks l m = some r → VRs ρ l l' → VRs ρ m m' → l' = l ∧ m' = m := by
  intro ks
  induction ks with
  | nil =>
    intro l m l' m' r h hl hm
    unfold sameFlat at h
    split at h
    · split at h
      · exact ⟨hl.nil_ex, hm.nil_ex⟩
      · cases h
    · cases h
  | cons k ks ih =>
    intro l m l' m' r h hl hm
    unfold sameFlat at h
    split at h
    · cases h
    · split at h
      · cases h
      · simp only [Opt.go_eq, Option.some.injEq] at h
        obtain ⟨b, h1, q, h2, rfl⟩ := h
        obtain ⟨f1, f2⟩ := sameLeaf_flat h1
        obtain ⟨a', l1, rfl, ha, hl'⟩ := hl.ex
        obtain ⟨b', m1, rfl, hb, hm'⟩ := hm.ex
        obtain ⟨rfl, rfl⟩ := ih h2 hl' hm'
        exact ⟨by rw [plain_same f1 ha], by rw [plain_same f2 hb]⟩

theorem eqOp_ok (C : CxOk P Γ) {t : TypeId} {ti : TI} (ht : Γ.ty t = some ti) {x y x' y' : Value} {r : Bool} (h : eqOp Γ ti.u x y s = some (r, s')) (inv : Inv Γ ρ s.h w) (hx : VR ρ x x') (hy : VR ρ y y') :
    (Op.equal t x' y').run P w = .ok r w ∧ s'.h = s.h ∧ s'.nx = s.nx := by
  obtain ⟨hu, -, -, -, -⟩ := ty_run C ht
  obtain ⟨d, hd⟩ : ∃ d, Op.maxDepth = d + 1 := ⟨9999, rfl⟩
  have he : Op.equal t x' y' = Op.equalIn (d + 1) t x' y' := by unfold Op.equal; rw [hd]
  clear ht hd
  generalize hu' : ti.u = u at h
  cases u <;> simp only [eqOp] at h <;> try (simp [EM.fail] at h; done)
  · unfold eqBool at h
    split at h
    · split at h
      · simp only [pure_eq, Prod.mk.injEq] at h
        obtain ⟨rfl, rfl⟩ := h
        cases hx; cases hy
        exact ⟨by rw [he]; simp only [Op.equalIn, Sem.run_bind, hu, Result.andThen_ok, hu', Sem.run_pure], rfl, rfl⟩
      · simp [EM.fail] at h
    · simp [EM.fail] at h
  · rename_i e
    simp only [have_eq] at h
    obtain ⟨u0, hp, h⟩ := h
    simp only [ptrTo, Opt.go_eq] at hp
    obtain ⟨te, hte, hp⟩ := hp
    have hsz : te.size ≠ 0 := fun e0 => by rw [e0] at hp; simp at hp
    obtain ⟨-, hs, -, -, -⟩ := ty_run C hte
    unfold eqPtr at h
    split at h
    · split at h
      · simp only [pure_eq, Prod.mk.injEq] at h
        obtain ⟨rfl, rfl⟩ := h
        cases hx
        cases hy <;> exact ⟨by rw [he]; simp only [Op.equalIn, Sem.run_bind, hu, Result.andThen_ok, hu', Sem.run_pure] <;> rfl, rfl, rfl⟩
      · simp [EM.fail] at h
    · split at h
      · simp only [pure_eq, Prod.mk.injEq] at h
        obtain ⟨rfl, rfl⟩ := h
        cases hx; cases hy
        exact ⟨by rw [he]; simp only [Op.equalIn, Sem.run_bind, hu, Result.andThen_ok, hu', Sem.run_pure], rfl, rfl⟩
      · cases hx with
        | ptr bx ox rbx px qx =>
        cases hy with
        | ptr b2 oy rby py qy =>
          obtain ⟨h1, h2, h3⟩ := ptrEq_ok (P := P) h inv (.ptr bx ox rbx px qx) (.ptr b2 oy rby py qy)
          refine ⟨?_, h2, h3⟩
          rw [he]
          simp only [Op.equalIn, Sem.run_bind, hu, Result.andThen_ok, hu', hs, Sem.run_ite, ne_eq, hsz, not_false_eq_true, if_true]
          exact h1
      · simp [EM.fail] at h
    · simp [EM.fail] at h
  · rename_i e
    unfold eqSlice at h
    split at h
    · split at h
      · simp only [pure_eq, Prod.mk.injEq] at h
        obtain ⟨rfl, rfl⟩ := h
        cases hx
        cases hy <;> exact ⟨by rw [he]; simp only [Op.equalIn, Sem.run_bind, hu, Result.andThen_ok, hu', Sem.run_pure] <;> rfl, rfl, rfl⟩
      · simp [EM.fail] at h
    · split at h
      · simp only [pure_eq, Prod.mk.injEq] at h
        obtain ⟨rfl, rfl⟩ := h
        cases hy
        cases hx <;> exact ⟨by rw [he]; simp only [Op.equalIn, Sem.run_bind, hu, Result.andThen_ok, hu', Sem.run_pure], rfl, rfl⟩
      · simp [EM.fail] at h
    · simp [EM.fail] at h
  · rename_i a b
    unfold eqMap at h
    split at h
    · split at h
      · simp only [pure_eq, Prod.mk.injEq] at h
        obtain ⟨rfl, rfl⟩ := h
        cases hx
        cases hy <;> exact ⟨by rw [he]; simp only [Op.equalIn, Sem.run_bind, hu, Result.andThen_ok, hu', Sem.run_pure] <;> rfl, rfl, rfl⟩
      · simp [EM.fail] at h
    · split at h
      · simp only [pure_eq, Prod.mk.injEq] at h
        obtain ⟨rfl, rfl⟩ := h
        cases hy
        cases hx <;> exact ⟨by rw [he]; simp only [Op.equalIn, Sem.run_bind, hu, Result.andThen_ok, hu', Sem.run_pure], rfl, rfl⟩
      · simp [EM.fail] at h
    · simp [EM.fail] at h
  · rename_i a b c
    unfold eqFunc at h
    split at h
    · split at h
      · simp only [pure_eq, Prod.mk.injEq] at h
        obtain ⟨rfl, rfl⟩ := h
        cases hx; cases hy
        exact ⟨by rw [he]; simp only [Op.equalIn, Sem.run_bind, hu, Result.andThen_ok, hu', Sem.run_pure], rfl, rfl⟩
      · simp only [pure_eq, Prod.mk.injEq] at h
        obtain ⟨rfl, rfl⟩ := h
        cases hx
        cases hy <;> exact ⟨by rw [he]; simp only [Op.equalIn, Sem.run_bind, hu, Result.andThen_ok, hu', Sem.run_pure], rfl, rfl⟩
      · simp [EM.fail] at h
    · split at h
      · simp only [pure_eq, Prod.mk.injEq] at h
        obtain ⟨rfl, rfl⟩ := h
        cases hy
        cases hx <;> exact ⟨by rw [he]; simp only [Op.equalIn, Sem.run_bind, hu, Result.andThen_ok, hu', Sem.run_pure], rfl, rfl⟩
      · simp [EM.fail] at h
    · simp [EM.fail] at h

theorem eqOp_any {u : TypeDesc} {x y : Value} {r : Bool × HS} (h : eqOp Γ u x y s = some r) : x ≠ .chan none ∧ ∀ i, x ≠ .float .f32 i := by
  refine ⟨fun e => ?_, fun i e => ?_⟩ <;> subst e <;> cases u <;> simp [eqOp, eqBool, eqPtr, eqSlice, eqMap, eqFunc, EM.fail, EM.have, Opt.go_eq] at h

theorem eqAny_ok (C : CxOk P Γ) {t : TypeId} {x y x' y' : Value} {r : Bool} {o : BinOp} {xo yo : Operand} (h : eqAny Γ t x y s = some (r, s')) (inv : Inv Γ ρ s.h w) (hx : VR ρ x x') (hy : VR ρ y y') (hni : x ≠ .nilIface) :
    (eqGuard o t xo yo x' y').run P w = .ok () w ∧ (Op.equal t x' y').run P w = .ok r w ∧ s'.h = s.h ∧ s'.nx = s.nx := by
  unfold eqAny at h
  split at h
  · rename_i xs
    split at h
    · rename_i ys
      simp only [have_eq, lift_eq, Prod.mk.injEq] at h
      obtain ⟨ks, hq, b, hb, rfl, rfl⟩ := h
      rw [agg_list xs] at hx
      rw [agg_list ys] at hy
      generalize xs.toList = X at *
      generalize ys.toList = Y at *
      cases hx with
      | agg l l' h1 h2 =>
      cases hy with
      | agg m m' h3 h4 =>
        obtain ⟨rfl, rfl⟩ := sameFlat_eq hb ⟨h1, h2⟩ ⟨h3, h4⟩
        obtain ⟨g1, g2⟩ := C.eqs t ks hq _ _ _ hb o xo yo w
        exact ⟨g1, g2, rfl, rfl⟩
    · simp [EM.fail] at h
  · rename_i hna
    simp only [have_eq] at h
    obtain ⟨ti, hti, h⟩ := h
    obtain ⟨hnc, hnn⟩ := eqOp_any h
    obtain ⟨h1, h2, h3⟩ := eqOp_ok C hti h inv hx hy
    refine ⟨eqGuard_run ?_ ?_, h1, h2, h3⟩
    · cases hx <;> first | (simp; done) | exact absurd rfl hni | exact absurd rfl hnc | exact absurd rfl (hnn _)
    · intro l
      cases hx <;> first | (simp; done) | exact absurd rfl (hna _) | exact absurd rfl hnc | exact absurd rfl (hnn _)

theorem binSym_int {op : BinOp} {lo hi : Nat} {y v : Value} {z : Int} (h : binSym op lo hi y s = some (v, s')) (h1 : (lo : Int) ≤ z + 9223372036854775808) (h2 : z + 9223372036854775808 ≤ hi) : binInt op .i64 z y s = some (v, s') := by
  unfold binSym at h
  split at h
  · rename_i b
    simp only [lift_eq, Opt.go_eq, Prod.mk.injEq] at h
    obtain ⟨u, ⟨c, hc, hu⟩, rfl, rfl⟩ := h
    have hi := symOp_int hu (biased_eq hc) h1 h2
    unfold binInt
    dsimp only
    cases op <;> first | (simp [symOp] at hu; done) | (simp only [if_true, hi, EM.lift]; rfl)
  · simp [EM.fail] at h

theorem binSym8_ok {op : BinOp} {t : TypeId} {lo hi : Nat} {z : Int} {y y' v : Value} {xo yo : Operand} (h : binSym8 op hi y s = some (v, s')) (pre : Pre Γ ρ s w s') (hy : VR ρ y y') (z1 : (lo : Int) ≤ z) (_z2 : z ≤ hi) :
    DoesV P Γ ρ s w (do eqGuard op t xo yo (.int .u8 z) y'; Go.binOp op t (.int .u8 z) y') v s' := by
  unfold binSym8 at h
  split at h
  · rename_i c
    split at h
    · cases hy
      simp only [need_eq, force_eq, pure_eq, Prod.mk.injEq, Bool.and_eq_true] at h
      obtain ⟨⟨c1, c2⟩, rfl, rfl⟩ := h
      have c1 : 1 ≤ c := Nat.le_of_ble_eq_true c1
      have c2 := Nat.le_of_ble_eq_true c2
      have hc : ¬ ((Int.ofNat c) = 0) := by
        intro e
        have : (c : Int) = 0 := e
        omega
      have hr : (modelInt .rem .u8 z (Int.ofNat c)).run P w = .ok (.int .u8 (z.tmod (Int.ofNat c))) w := intOp_run (P := P) (w := w) (by simp only [intOp, if_neg hc])
      refine .of_run pre rfl (v' := .int .u8 (z.tmod (Int.ofNat c))) ?_ (.sym8 _ _ _ ?_ ?_ ?_)
      · simp only [Sem.run_bind, eqGuard_run (P := P) (w := w) (op := .rem) (t := t) (x := xo) (y := yo) (a := .int .u8 z) (b := .int .u8 (Int.ofNat c)) (by simp) (by simp), Result.andThen_ok]
        exact hr
      · have := Int.tmod_nonneg (Int.ofNat c) (show (0 : Int) ≤ z by omega)
        simpa using this
      · have h9 := Int.tmod_lt_of_pos z (show (0 : Int) < (c : Int) by omega)
        show z.tmod (c : Int) ≤ ((c - 1 : Nat) : Int)
        omega
      · show c - 1 < 256
        omega
    · simp [EM.fail] at h
  · simp [EM.fail] at h

theorem binOther_ok (C : CxOk P Γ) {op : BinOp} {t : TypeId} {x y x' y' v : Value} {xo yo : Operand} (h : binOther Γ op t x y s = some (v, s')) (pre : Pre Γ ρ s w s') (hx : VR ρ x x') (hy : VR ρ y y')
    (n0 : ∀ k a b, x ≠ .complex k a b) (n1 : ∀ k n, x ≠ .int k n) (n2 : ∀ z, x ≠ .string z) : DoesV P Γ ρ s w (do eqGuard op t xo yo x' y'; Go.binOp op t x' y') v s' := by
  have hni : x ≠ .nilIface ∨ x = .nilIface := by by_cases h : x = .nilIface; exact .inr h; exact .inl h
  have hnot : ∀ b s1, eqAny Γ t x y s = some (b, s1) → x ≠ .nilIface := fun b s1 hh e => by
    subst e
    simp only [eqAny, have_eq] at hh
    obtain ⟨ti, -, hh⟩ := hh
    generalize ti.u = u at hh
    cases u <;> simp [eqOp, eqBool, eqPtr, eqSlice, eqMap, eqFunc, EM.fail, EM.have, Opt.go_eq] at hh
  have hany : ∀ b s1, eqAny Γ t x y s = some (b, s1) → x ≠ .chan none ∧ ∀ i, x ≠ .float .f32 i := fun b s1 hh => by
    refine ⟨fun e => ?_, fun i e => ?_⟩ <;> subst e <;> simp only [eqAny, have_eq] at hh <;> obtain ⟨ti, -, hh⟩ := hh
    · exact (eqOp_any hh).1 rfl
    · exact (eqOp_any hh).2 i rfl
  have nb : ∀ (o : BinOp), (o = .eql ∨ o = .neq) → (x ≠ .chan none ∧ ∀ i, x ≠ .float .f32 i) → Go.binOp o t x' y' = (if o = .eql then (do pure (.bool (← Op.equal t x' y'))) else (do pure (.bool !(← Op.equal t x' y')))) := by
    intro o ho hxc
    rcases ho with rfl | rfl <;> cases hx <;> first | exact absurd rfl hxc.1 | exact absurd rfl (hxc.2 _) | exact absurd rfl (n0 _ _ _) | exact absurd rfl (n1 _ _) | exact absurd rfl (n2 _) | rfl | (cases hy <;> rfl)
  unfold binOther at h
  split at h
  · simp only [bind_eq, pure_eq, Prod.mk.injEq] at h
    obtain ⟨b, s1, h1, rfl, rfl⟩ := h
    obtain ⟨g1, g2, g3, g4⟩ := eqAny_ok C (o := .eql) (xo := xo) (yo := yo) h1 pre.inv hx hy (hnot _ _ h1)
    rw [boolV_eq]
    exact .of_run pre g3 (by simp only [Sem.run_bind, g1, Result.andThen_ok, nb .eql (.inl rfl) (hany _ _ h1), if_true, g2, Sem.run_pure]) (.bool b)
  · simp only [bind_eq, pure_eq, Prod.mk.injEq] at h
    obtain ⟨b, s1, h1, rfl, rfl⟩ := h
    obtain ⟨g1, g2, g3, g4⟩ := eqAny_ok C (o := .neq) (xo := xo) (yo := yo) h1 pre.inv hx hy (hnot _ _ h1)
    rw [boolV_eq]
    exact .of_run pre g3 (by simp only [Sem.run_bind, g1, Result.andThen_ok, nb .neq (.inr rfl) (hany _ _ h1)]; simp [g2]) (.bool _)
  · simp [EM.fail] at h

theorem binV_ok (C : CxOk P Γ) {op : BinOp} {t : TypeId} {x y x' y' v : Value} {xo yo : Operand} (h : binV x Γ op t y s = some (v, s')) (pre : Pre Γ ρ s w s') (hx : VR ρ x x') (hy : VR ρ y y') :
    DoesV P Γ ρ s w (do eqGuard op t xo yo x' y'; Go.binOp op t x' y') v s' := by
  unfold binV at h
  split at h
  · cases hx with
    | sym lo hi z g1 g2 g3 => exact binInt_ok (binSym_int h g1 g2) pre hy
  · cases hx with
    | sym8 lo hi z g1 g2 g3 => exact binSym8_ok h pre hy g1 g2
  · cases hx; exact binInt_ok h pre hy
  · cases hx; exact binStr_ok h pre hy
  · rename_i n0 n9 n1 n2
    exact binOther_ok C h pre hx hy (fun k a b e => by cases k; exact n9 a b e; exact n0 a b e) (fun k n e => n1 k n e) (fun z e => n2 z e)

theorem unV_ok {op : UnOp} {x x' v : Value} (h : unV op x = some v) (hx : VR ρ x x') : (Op.unary op x').run P w = .ok v w ∧ VR ρ v v := by
  cases op <;> simp only [unV] at h <;> try (cases h; done)
  all_goals (split at h <;> try (cases h; done))
  · obtain rfl := Option.some.inj h
    cases hx
    rw [intV_eq]
    exact ⟨rfl, .int _ _⟩
  · cases hx
    have hr : (Op.intBits .xor _ _ _).run P w = .ok v w := intOp_run (op := .xor) h
    refine ⟨hr, ?_⟩
    simp only [Op.intBits, Sem.run_pure, Result.ok.injEq] at hr
    rw [← hr.1]; exact .int _ _
  · obtain rfl := Option.some.inj h
    cases hx
    exact ⟨by rw [boolV_eq]; rfl, by rw [boolV_eq]; exact .bool _⟩

end ops
end Go.Ideal

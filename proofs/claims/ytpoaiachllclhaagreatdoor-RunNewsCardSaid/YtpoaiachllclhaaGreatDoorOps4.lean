/-
  What an operation does in the ideal heap, it does in the world: values built, parts, slices. Conditions: none.
-/
import Derived.Test.YtpoaiachllclhaaGreatDoorOps3
namespace Go.Ideal
open Go

section ops
variable {P : Program} {Γ : Cx} {ρ : Rho} {s s' : HS} {w : World}

theorem addOff_eq (b o n : Nat) : addOff ⟨b, o, none⟩ n = ⟨b, o + n, none⟩ := by
  unfold addOff
  cases h : Nat.beq n 0 with
  | true => rw [cond_true]; have := Nat.eq_of_beq_eq_true h; subst this; rfl
  | false => rw [cond_false, force_eq]; rfl

theorem addOff_any (a : Addr) (n : Nat) : addOff a n = a.add n := by
  unfold addOff Addr.add
  cases h : Nat.beq n 0 with
  | true => rw [cond_true, if_pos (Nat.eq_of_beq_eq_true h)]
  | false =>
    rw [cond_false, force_eq, if_neg (fun e => by subst e; cases h)]; rfl

/-! ### Values built -/
theorem fold_put (off : Nat) : ∀ (l : List Value) (i : Nat) (arr : Array Value), off + i + l.length ≤ arr.size →
    ((l.zipIdx i).foldl (fun cs (p : Value × Nat) => cs.setIfInBounds (off + p.2) p.1) arr).size = arr.size ∧
    ∀ k, ((l.zipIdx i).foldl (fun cs (p : Value × Nat) => cs.setIfInBounds (off + p.2) p.1) arr)[k]? = if off + i ≤ k ∧ k < off + i + l.length then l[k - (off + i)]? else arr[k]? := by
  intro l
  induction l with
  | nil => intro i arr _; exact ⟨rfl, fun k => by rw [if_neg (by simp)]; rfl⟩
  | cons v l ih =>
    intro i arr h
    simp only [List.length_cons] at h
    simp only [List.zipIdx_cons, List.foldl_cons]
    obtain ⟨h1, h2⟩ := ih (i + 1) (arr.setIfInBounds (off + i) v) (by simp; omega)
    refine ⟨by rw [h1]; simp, fun k => ?_⟩
    rw [h2]
    by_cases hk : off + (i + 1) ≤ k ∧ k < off + (i + 1) + l.length
    · rw [if_pos hk, if_pos (by simp only [List.length_cons]; omega), show k - (off + i) = (k - (off + (i + 1))) + 1 by omega]; simp
    · rw [if_neg hk, Array.getElem?_setIfInBounds]
      by_cases hk0 : off + i = k
      · subst hk0
        rw [if_pos rfl, if_pos (show off + i < arr.size by omega), if_pos (show off + i ≤ off + i ∧ off + i < off + i + (v :: l).length by simp only [List.length_cons]; omega)]; simp
      · rw [if_neg hk0, if_neg (by simp only [List.length_cons]; omega)]

def PR (ρ : Rho) (ps : List (Nat × Value)) (ps' : List (Nat × Value)) : Prop := ps.length = ps'.length ∧ ∀ (j : Nat) p p', ps[j]? = some p → ps'[j]? = some p' → p'.1 = p.1 ∧ VR ρ p.2 p'.2

theorem PR.ex {p : Nat × Value} {l l' : List (Nat × Value)} (h : PR ρ (p :: l) l') : ∃ p' r', l' = p' :: r' ∧ p'.1 = p.1 ∧ VR ρ p.2 p'.2 ∧ PR ρ l r' := by
  cases l' with
  | nil => have := h.1; simp at this
  | cons p' r' =>
    obtain ⟨a, b⟩ := h.2 0 p p' rfl rfl
    exact ⟨p', r', rfl, a, b, by simpa using h.1, fun j x x' hx hx' => h.2 (j + 1) x x' (by simpa using hx) (by simpa using hx')⟩

theorem lay_ok {place place' : Nat → Option (Nat × Nat)} (hp : ∀ i x, place i = some x → place' i = some x) : ∀ (ps ps' : List (Nat × Value)) (cs cs1 : List Value) (arr : Array Value), lay place ps cs = some cs1 → PR ρ ps ps' → VRs ρ cs arr.toList →
    ∃ arr1, Instr.fill place' arr ps' = some arr1 ∧ VRs ρ cs1 arr1.toList := by
  intro ps
  induction ps with
  | nil =>
    intro ps' cs cs1 arr h hps hcs
    obtain rfl := Option.some.inj h
    have : ps' = [] := by have := hps.1; simp at this; exact List.eq_nil_of_length_eq_zero this.symm
    subst this
    exact ⟨arr, rfl, hcs⟩
  | cons p ps ih =>
    intro ps' cs cs1 arr h hps hcs
    obtain ⟨p', r', rfl, e1, e2, e3⟩ := hps.ex
    simp only [lay, Opt.go_eq] at h
    obtain ⟨os, hos, h⟩ := h
    cases hb : Nat.beq (cellsOf p.2).length os.2 with
    | false => rw [hb] at h; simp at h
    | true =>
      simp only [hb, cond_true, Opt.go_eq] at h
      obtain ⟨cs', hput, h⟩ := h
      obtain ⟨q1, q2, q3⟩ := (putAt_iff _ _ _ _).1 hput
      have hv := e2.cells
      have hl := hv.1
      have hlen : p'.2.cells.size = os.2 := by
        rw [Nat.eq_of_beq_eq_true hb] at hl; simpa using hl.symm
      have hcl : cs.length = arr.size := by simpa using hcs.1
      have hle : os.1 + 0 + p'.2.cells.toList.length ≤ arr.size := by
        have h1 := q1; rw [hl] at h1; rw [← hcl]; omega
      obtain ⟨f1, f2⟩ := fold_put os.1 p'.2.cells.toList 0 arr hle
      have hfold : (p'.2.cells.zipIdx.foldl (fun cs (x : Value × Nat) => cs.setIfInBounds (os.1 + x.2) x.1) arr) = ((p'.2.cells.toList.zipIdx 0).foldl (fun cs (p : Value × Nat) => cs.setIfInBounds (os.1 + p.2) p.1) arr) := by
        rw [← Array.foldl_toList]; congr 1; simp
      have hrel : VRs ρ cs' (p'.2.cells.zipIdx.foldl (fun cs (x : Value × Nat) => cs.setIfInBounds (os.1 + x.2) x.1) arr).toList := by
        rw [hfold]
        refine ⟨by rw [q2]; simp only [Array.length_toList, f1]; exact hcl, fun j v v' hv1 hv2 => ?_⟩
        rw [Array.getElem?_toList, f2] at hv2
        rw [q3] at hv1
        have hll : (cellsOf p.2).length = p'.2.cells.toList.length := hl
        by_cases hj : os.1 ≤ j ∧ j < os.1 + (cellsOf p.2).length
        · rw [if_pos hj] at hv1
          rw [if_pos (by omega)] at hv2
          exact hv.2 (j - os.1) v v' hv1 (by simpa using hv2)
        · rw [if_neg hj] at hv1
          rw [if_neg (by omega)] at hv2
          exact hcs.2 j v v' hv1 (by simpa using hv2)
      obtain ⟨arr1, g1, g2⟩ := ih r' cs' cs1 _ h e3 hrel
      refine ⟨arr1, ?_, g2⟩
      obtain ⟨i', v'⟩ := p'
      simp only at e1 e2 hlen hle g1
      subst e1
      simp only [Instr.fill, hp _ _ hos]
      rw [if_neg]
      · exact g1
      · have h2 : v'.cells.toList.length = v'.cells.size := by simp
        simp only [Bool.or_eq_true, ne_eq, hlen, not_true_eq_false, decide_eq_true_eq, false_or]
        omega

theorem allTy_mem {fs : List Field} (h : allTy Γ fs = true) : ∀ f ∈ fs, ∃ ti, Γ.ty f.type = some ti := by
  induction fs with
  | nil => intro f hf; cases hf
  | cons g l ih =>
    simp only [allTy, Bool.and_eq_true] at h
    intro f hf
    rcases List.mem_cons.1 hf with rfl | hf
    · exact Option.isSome_iff_exists.1 h.1
    · exact ih h.2 f hf

theorem run_places' (C : CxOk P Γ) : ∀ (fs : List Field), (∀ f ∈ fs, ∃ ti, Γ.ty f.type = some ti) →
    ∃ pl : List (Nat × Nat), (∀ w, (fs.mapM fun f => do pure (f.offset, ← sizeOf f.type) : Sem (List (Nat × Nat))).run P w = .ok pl w) ∧ pl.length = fs.length ∧
      ∀ (j : Nat) f ti, fs[j]? = some f → Γ.ty f.type = some ti → pl[j]? = some (f.offset, ti.size) := by
  intro fs
  induction fs with
  | nil => intro _; exact ⟨[], fun w => by simp, rfl, fun j f ti h => by simp at h⟩
  | cons g l ih =>
    intro h
    obtain ⟨ti, hti⟩ := h g (by simp)
    obtain ⟨pl, h1, h2, h3⟩ := ih (fun f hf => h f (by simp [hf]))
    obtain ⟨-, hs, -, -, -⟩ := ty_run C hti
    refine ⟨(g.offset, ti.size) :: pl, fun w => ?_, by simp [h2], fun j f tj hf ht => ?_⟩
    · simp only [List.mapM_cons, Sem.run_bind, hs, Result.andThen_ok, Sem.run_pure, h1]
    · cases j with
      | zero => simp at hf; subst hf; rw [hti] at ht; obtain rfl := Option.some.inj ht; rfl
      | succ j => simp at hf; simpa using h3 j f tj hf ht

theorem VRs.toArr {l : List Value} {arr : Array Value} (h : VRs ρ l arr.toList) : VR ρ (.agg l.toArray) (.agg arr) := by
  have := VR.agg' h
  simpa using this

theorem buildV_ok (C : CxOk P Γ) {t : TypeId} {ps : List (Nat × Value)} {ps' : Array (Nat × Value)} {v : Value} (h : buildV Γ t ps = some v) (hps : PR ρ ps ps'.toList) :
    ∃ v', (∀ w, (Instr.build t ps').run P w = .ok v' w) ∧ VR ρ v v' := by
  simp only [buildV, Opt.go_eq] at h
  obtain ⟨ti, hti, h⟩ := h
  obtain ⟨hu, hs, -, -, z, hz, hzc, hzo⟩ := ty_run C hti
  obtain ⟨hzv, -, -, hzcells⟩ := zero_VRs (ρ := ρ) hzo hzc
  have hz0 : VRs ρ ti.zero z.cells.toList := by rw [hzcells]; simpa using hzv
  split at h
  · rename_i fs hfs
    cases hat : allTy Γ fs.toList with
    | false => rw [hat] at h; simp at h
    | true =>
      simp only [hat, cond_true, Opt.go_eq] at h
      obtain ⟨cs, hl, h⟩ := h
      obtain rfl := Option.some.inj h
      obtain ⟨pl, p1, p2, p3⟩ := run_places' C fs.toList (allTy_mem hat)
      obtain ⟨arr1, f1, f2⟩ := lay_ok (place' := fun i => pl.toArray[i]?) (fun i x hx => by
        simp only [place, Opt.go_eq] at hx
        obtain ⟨f, hf, tj, htj, hx⟩ := hx
        obtain rfl := Option.some.inj hx
        show pl.toArray[i]? = _
        rw [List.getElem?_toArray]
        exact p3 i f tj (by rw [Array.getElem?_toList]; exact hf) htj) ps ps'.toList _ _ z.cells hl hps hz0
      refine ⟨.agg arr1, fun w => ?_, f2.toArr⟩
      simp only [Instr.build, Sem.run_bind, hz, Result.andThen_ok, hu, hfs, Array.mapM_eq_mapM_toList, Sem.run_map, p1]
      rw [f1]; rfl
  · rename_i n elem hfs
    simp only [Opt.go_eq] at h
    obtain ⟨te, hte, cs, hl, h⟩ := h
    obtain rfl := Option.some.inj h
    obtain ⟨-, hse, -, -, -⟩ := ty_run C hte
    obtain ⟨arr1, f1, f2⟩ := lay_ok (place' := fun i => some (i * te.size, te.size)) (fun i x hx => hx) ps ps'.toList _ _ z.cells hl hps hz0
    refine ⟨.agg arr1, fun w => ?_, f2.toArr⟩
    simp only [Instr.build, Sem.run_bind, hz, Result.andThen_ok, hu, hfs, hse]
    rw [f1]; rfl
  · cases h

theorem partV_ok (C : CxOk P Γ) {t : TypeId} {cs : List Value} {cs' : Array Value} {off : Nat} {v : Value} (h : partV Γ t cs off = some v) (hcs : VRs ρ cs cs'.toList) :
    ∃ v', (∀ w, (part t cs' off).run P w = .ok v' w) ∧ VR ρ v v' := by
  simp only [partV, Opt.go_eq] at h
  obtain ⟨ti, hti, h⟩ := h
  obtain ⟨-, hs, ha, -, -⟩ := ty_run C hti
  have hcl : cs.length = cs'.size := by simpa using hcs.1
  cases hagg : ti.agg with
  | true =>
    simp only [hagg, cond_true, Opt.go_eq] at h
    obtain ⟨l, hl, h⟩ := h
    obtain rfl := Option.some.inj h
    obtain ⟨t1, t2, t3⟩ := (takeAt_iff _ _ _ _).1 hl
    refine ⟨.agg (cs'.extract off (off + ti.size)), fun w => by simp only [part, Sem.run_bind, ha, hagg, Result.andThen_ok, if_true, hs, Sem.run_pure], VRs.toArr ⟨by simp; omega, fun j v v' hv hv' => ?_⟩⟩
    have hj : j < ti.size := by rw [← t1]; exact (List.getElem?_eq_some_iff.1 hv).1
    rw [Array.getElem?_toList, Array.getElem?_extract] at hv'
    rw [← t3 j hj] at hv
    rw [if_pos (by omega)] at hv'
    exact hcs.2 (off + j) v v' hv (by rw [Array.getElem?_toList]; exact hv')
  | false =>
    simp only [hagg, cond_false, Opt.go_eq] at h
    obtain ⟨l, hl, h⟩ := h
    obtain ⟨t1, t2, t3⟩ := (takeAt_iff _ _ _ _).1 hl
    cases l with
    | nil => cases h
    | cons x l =>
      cases l with
      | cons y l => cases h
      | nil =>
        obtain rfl := Option.some.inj h
        have h0 := t3 0 (by omega)
        simp only [Nat.add_zero, List.getElem?_cons_zero] at h0
        obtain ⟨v', a1, a2⟩ := hcs.get h0
        rw [Array.getElem?_toList] at a1
        exact ⟨v', fun w => by simp only [part, Sem.run_bind, ha, hagg, Result.andThen_ok, Bool.false_eq_true, if_false, a1, Sem.run_pure], a2⟩

theorem natOf_ok {v v' : Value} {n : Nat} (h : natOf v = some n) (hv : VR ρ v v') : ∃ k, v' = .int k n := by
  unfold natOf at h
  split at h
  · obtain rfl := Option.some.inj h
    cases hv; exact ⟨_, rfl⟩
  · cases h

theorem fieldAddrV_ok (C : CxOk P Γ) {t : TypeId} {f : Nat} {b o : Nat} {sp : Option Nat} {v a' : Value} (h : fieldAddrV Γ t f ⟨b, o, sp⟩ s = some (v, s')) (pre : Pre Γ ρ s w s') (hv : VR ρ (.pointer (some ⟨b, o, sp⟩)) a') :
    DoesV P Γ ρ s w (Instr.fieldAt t a' f) v s' := by
  simp only [fieldAddrV, have_eq] at h
  obtain ⟨ti, hti, h⟩ := h
  obtain ⟨hu, -, -, -, -⟩ := ty_run C hti
  cases hfs : ti.u <;> rw [hfs] at h <;> dsimp only at h <;> try (simp [EM.fail] at h; done)
  · rename_i fs
    simp only [have_eq, need_eq, pure_eq, Prod.mk.injEq] at h
    obtain ⟨fd, hfd, tf, htf, hz, rfl, rfl⟩ := h
    obtain ⟨-, hsf, -, -, -⟩ := ty_run C htf
    have hne : tf.size ≠ 0 := fun e => by rw [e] at hz; cases hz
    cases hv with
    | ptr b o rb h1 h2 =>
      refine .of_run pre rfl (v' := .pointer (some ⟨rb.blk, rb.off + o + fd.offset, none⟩)) ?_ ?_
      · simp only [Instr.fieldAt, Sem.run_bind, hu, hfs, Result.andThen_ok, hfd, Instr.sureAddr, Sem.run_pure, fieldPlace, hsf, hne, if_false, addr_add]
      · rw [addOff_eq, Nat.add_assoc]; exact .ptr b (o + fd.offset) rb h1 h2

theorem fieldV_ok (C : CxOk P Γ) {t : TypeId} {f : Nat} {x x' v : Value} (h : fieldV Γ t f x s = some (v, s')) (pre : Pre Γ ρ s w s') (hv : VR ρ x x') :
    DoesV P Γ ρ s w (Instr.field t x' f) v s' := by
  simp only [fieldV, have_eq] at h
  obtain ⟨ti, hti, h⟩ := h
  obtain ⟨hu, -, -, -, -⟩ := ty_run C hti
  cases hfs : ti.u <;> rw [hfs] at h <;> dsimp only at h <;> try (simp [EM.fail] at h; done)
  · rename_i fs
    cases x <;> (try dsimp only at h) <;> try (simp [EM.fail] at h; done)
    · rename_i cs
      simp only [have_eq, lift_eq, Prod.mk.injEq] at h
      obtain ⟨fd, hfd, v0, hp, rfl, rfl⟩ := h
      cases hv with
      | agg l l' h1 h2 =>
        obtain ⟨v', a1, a2⟩ := partV_ok C (cs' := l'.toArray) hp (⟨h1, h2⟩ : VRs ρ l l')
        exact .of_run pre rfl (by simp only [Instr.field, Sem.run_bind, hu, hfs, Result.andThen_ok, hfd, asAgg, Sem.run_pure, a1]) a2

theorem byteAt_ok : ∀ {l : List UInt8} {i : Nat} {v : Value}, byteAt l i = some v → ∃ b, l[i]? = some b ∧ v = .int .u8 b.toNat := by
  intro l
  induction l with
  | nil => intro i v h; cases h
  | cons b l ih =>
    intro i v h
    cases i with
    | zero =>
      obtain rfl := Option.some.inj h
      exact ⟨b, rfl, by rw [intV_eq, show IntKind.u8.wrap (Int.ofNat b.toNat) = b.toNat from topOf_wrap .u8 _ (by have := b.toNat_lt; show b.toNat ≤ 255; omega)]⟩
    | succ i => simpa using ih h

theorem elemTy_eq {u : TypeDesc} {e : TypeId} (h : elemTy u = some e) : u = .slice e := by
  cases u <;> simp [elemTy] at h
  rw [h]

theorem indexV_ok (C : CxOk P Γ) {t : TypeId} {i : Nat} {x x' ix' v : Value} {k : IntKind} (h : indexV Γ t i x s = some (v, s')) (pre : Pre Γ ρ s w s') (hv : VR ρ x x') (hi : ix' = .int k i) :
    DoesV P Γ ρ s w (Instr.index t x' ix') v s' := by
  subst hi
  simp only [indexV, have_eq] at h
  obtain ⟨ti, hti, h⟩ := h
  obtain ⟨hu, -, -, -, -⟩ := ty_run C hti
  cases hfs : ti.u <;> rw [hfs] at h <;> dsimp only at h <;> try (simp [EM.fail] at h; done)
  · cases x <;> (try dsimp only at h) <;> try (simp [EM.fail] at h; done)
    · rename_i str
      simp only [lift_eq, Prod.mk.injEq] at h
      obtain ⟨v0, hp, rfl, rfl⟩ := h
      obtain ⟨b, hb, rfl⟩ := byteAt_ok hp
      cases hv
      refine .of_run pre rfl ?_ (.int _ _)
      have hget : str[i]? = some b := by
        have hlt : i < str.size := by
          have := (List.getElem?_eq_some_iff.1 hb).1
          exact this
        rw [getElem?_pos str i hlt]
        have h2 := (List.getElem?_eq_some_iff.1 hb).2
        congr 1
      simp only [Instr.index, asIntOf, Sem.run_bind, Sem.run_pure, Result.andThen_ok, hu, hfs, Int.toNat_natCast]
      rw [if_pos (show (0 : Int) ≤ (i : Int) by omega), hget]
      rfl
  · rename_i len elem
    cases x <;> (try dsimp only at h) <;> try (simp [EM.fail] at h; done)
    · rename_i cs
      simp only [have_eq, need_eq, lift_eq, Prod.mk.injEq] at h
      obtain ⟨te, hte, hlt, v0, hp, rfl, rfl⟩ := h
      obtain ⟨-, hse, -, -, -⟩ := ty_run C hte
      have hlt' : i < len := Nat.le_of_ble_eq_true hlt
      cases hv with
      | agg l l' h1 h2 =>
        obtain ⟨v', a1, a2⟩ := partV_ok C (cs' := l'.toArray) hp (⟨h1, h2⟩ : VRs ρ l l')
        have hb : (0 : Int) ≤ (i : Int) ∧ (i : Int) < (len : Int) := by omega
        refine .of_run pre rfl ?_ a2
        simp only [Instr.index, asIntOf, Sem.run_bind, Sem.run_pure, Result.andThen_ok, hu, hfs, Sem.run_ite, if_pos hb, hse, Int.toNat_natCast]
        exact a1 w

theorem indexAddrV_ok (C : CxOk P Γ) {t : TypeId} {i : Nat} {x x' ix' v : Value} {k : IntKind} (h : indexAddrV Γ t i x s = some (v, s')) (pre : Pre Γ ρ s w s') (hv : VR ρ x x') (hi : ix' = .int k i) :
    DoesV P Γ ρ s w (Instr.indexAt t x' ix') v s' := by
  subst hi
  simp only [indexAddrV, have_eq] at h
  obtain ⟨ti, hti, h⟩ := h
  obtain ⟨hu, -, -, -, -⟩ := ty_run C hti
  cases hfs : ti.u <;> rw [hfs] at h <;> dsimp only at h <;> try (simp [EM.fail] at h; done)
  · rename_i elem
    cases x <;> (try dsimp only at h) <;> try (simp [EM.fail] at h; done)
    · rename_i a0 len cap
      cases a0 <;> (try dsimp only at h) <;> try (simp [EM.fail] at h; done)
      rename_i a
      simp only [have_eq, need_eq, pure_eq, Prod.mk.injEq] at h
      obtain ⟨te, hte, hlt, rfl, rfl⟩ := h
      obtain ⟨-, hse, -, -, -⟩ := ty_run C hte
      have hlt' : i < len := Nat.le_of_ble_eq_true hlt
      have hb : (0 : Int) ≤ (i : Int) ∧ (i : Int) < (len : Int) := by omega
      cases hv with
      | sl b o n c c' rb h1 h2 h3 =>
        refine .of_run pre rfl (v' := .pointer (some ⟨rb.blk, rb.off + o + i * te.size, none⟩)) ?_ ?_
        · simp only [Instr.indexAt, asIntOf, Sem.run_bind, Sem.run_pure, Result.andThen_ok, hu, hfs, Sem.run_ite, if_pos hb, hse, Int.toNat_natCast, addr_add]
        · rw [addOff_eq, Nat.add_assoc]; exact .ptr b (o + i * te.size) rb h1 h2
      | slg b o c' a' rb h1 h2 => exact absurd hlt' (by omega)
  · rename_i len elem
    cases x <;> (try dsimp only at h) <;> try (simp [EM.fail] at h; done)
    · rename_i a0
      cases a0 <;> (try dsimp only at h) <;> try (simp [EM.fail] at h; done)
      rename_i a
      simp only [have_eq, need_eq, pure_eq, Prod.mk.injEq] at h
      obtain ⟨te, hte, hlt, rfl, rfl⟩ := h
      obtain ⟨-, hse, -, -, -⟩ := ty_run C hte
      have hlt' : i < len := Nat.le_of_ble_eq_true hlt
      have hb : (0 : Int) ≤ (i : Int) ∧ (i : Int) < (len : Int) := by omega
      cases hv with
      | ptr b o rb h1 h2 =>
        refine .of_run pre rfl (v' := .pointer (some ⟨rb.blk, rb.off + o + i * te.size, none⟩)) ?_ ?_
        · simp only [Instr.indexAt, asIntOf, Sem.run_bind, Sem.run_pure, Result.andThen_ok, hu, hfs, Instr.sureAddr, Sem.run_ite, if_pos hb, hse, Int.toNat_natCast, addr_add]
        · rw [addOff_eq, Nat.add_assoc]; exact .ptr b (o + i * te.size) rb h1 h2

end ops
end Go.Ideal

/-
  What an operation does in the ideal heap, it does in the world: delete, range, next; append, copy, len, clear. Conditions: none.
-/
import Derived.Test.YtpoaiachllclhaaGreatDoorOps6
namespace Go.Ideal
open Go

section ops
variable {P : Program} {Γ : Cx} {ρ : Rho} {s s' : HS} {w : World}

theorem heap_same {b : Nat} {o : Obj} (h : w.heap[b]? = some o) : ({ w with heap := w.heap.setIfInBounds b o } : World) = w := by
  have hb : b < w.heap.size := (Array.getElem?_eq_some_iff.1 h).1
  cases w with
  | mk heap tape drawn os output =>
    simp only [World.mk.injEq, and_true]
    apply Array.ext_getElem?
    intro j
    rw [Array.getElem?_setIfInBounds]
    by_cases hj : b = j
    · subst hj; simp only [if_true, hb]; exact h.symm
    · simp [hj]

theorem deleteV_ok (C : CxOk P Γ) {t : TypeId} {m m' k k' : Value} {u : Unit} {ts : Array TypeId} {tt : TypeId} (h : deleteV Γ t m k s = some (u, s')) (hts : ts[0]? = some t) (pre : Pre Γ ρ s w s') (hm : VR ρ m m') (hk : VR ρ k k') :
    DoesV P Γ ρ s w (Builtin.delete_ ts tt #[m', k']) noneV s' := by
  simp only [deleteV, have_eq, need_eq] at h
  obtain ⟨mt, hmt, hf, h⟩ := h
  obtain ⟨ti, key, hti, hu, htk, -⟩ := mapTy_ok hmt
  obtain ⟨hur, -, -, -, -⟩ := ty_run C hti
  rw [hu] at hur
  obtain ⟨huk, -, -, -, -⟩ := ty_run C htk
  obtain ⟨hko, hkf⟩ := keyOf_of hf
  obtain rfl := flat_eq hkf hk
  have hv : VR ρ noneV (.tuple #[]) := VR.tup' (VRs.nil ρ)
  split at h
  · simp only [pure_eq, Prod.mk.injEq] at h
    obtain ⟨-, rfl⟩ := h
    cases hm
    refine .of_run pre rfl ?_ hv
    simp only [Builtin.delete_, hts, List.getElem?_toArray, List.getElem?_cons_zero, List.getElem?_cons_succ, Sem.run_bind, hur, Result.andThen_ok, checkKey_run huk hko, Sem.run_pure]
  · rename_i r
    simp only [bind_eq, have_eq] at h
    obtain ⟨o, s1, h1, e, h2, f, hf2, h⟩ := h
    obtain ⟨y, g1, rfl, e1, n1⟩ := hget_spec h1
    cases y <;> simp only [strip, entries] at h2 <;> try (cases h2; done)
    rename_i es clock
    obtain rfl := Option.some.inj h2
    cases hm with
    | map r rb p1 =>
      obtain ⟨es', a1, a2, a3⟩ := pre.inv.obj _ _ rb g1 p1
      obtain ⟨r', b1, b2, b3⟩ := findE_ok hko hf2 a2
      have hget := run_getObj (P := P) (w := w) a1 (by simp)
      have find : ∀ w', (Instr.findKey key k' es'.toList).run P w' = .ok r' w' := fun w' => by
        simp only [Instr.findKey, Sem.run_bind, huk, Result.andThen_ok, b1, Sem.run_pure]
      have hlim := pre.inv.lim _ _ p1
      have hblt : rb.blk < w.heap.size := (Array.getElem?_eq_some_iff.1 a1).1
      cases f with
      | some p =>
        obtain ⟨-, v0, c1, -, x, c4, -⟩ := b2 p.1 p.2 rfl
        subst c1
        obtain ⟨z, d1, d2, d3, d4, d5⟩ := hset_spec h
        rw [e1] at d1 d4
        refine ⟨.tuple #[], { w with heap := w.heap.setIfInBounds rb.blk (.map (es'.eraseIdxIfInBounds p.1) clock) }, ρ, ?_, VR.tup' (VRs.nil ρ), ?_⟩
        · simp only [Builtin.delete_, hts, List.getElem?_toArray, List.getElem?_cons_zero, List.getElem?_cons_succ, Sem.run_bind, hur, Result.andThen_ok, hget, checkKey_run huk hko, find, run_setObj a1 (by simp), Sem.run_pure]
        · have hlt : p.1 < es.length := by
            have h0 : es[p.1]? = some x := by simpa using c4
            exact (List.getElem?_eq_some_iff.1 h0).1
          have hl : es.length = es'.size := by simpa using a2.1
          have herase : (es'.eraseIdxIfInBounds p.1).toList = es'.toList.eraseIdx p.1 := by
            rw [Array.eraseIdxIfInBounds, dif_pos (show p.1 < es'.size by omega)]; simp
          refine Stp.put (x' := .map (es.eraseIdx p.1) clock) hlim pre.inv g1 rfl p1 a3 d4 ⟨_, by rw [heap_set hblt, if_pos rfl], ⟨?_, fun j e1 e2 he1 he2 => ?_⟩, a3⟩
          · rw [herase, List.length_eraseIdx_of_lt hlt, List.length_eraseIdx_of_lt (by rw [← a2.1]; exact hlt), a2.1]
          · rw [herase] at he2
            rw [List.getElem?_eraseIdx] at he1 he2
            split at he1
            · rename_i hj; rw [if_pos hj] at he2; exact a2.2 _ e1 e2 he1 he2
            · rename_i hj; rw [if_neg hj] at he2; exact a2.2 _ e1 e2 he1 he2
      | none =>
        have := b3 rfl
        subst this
        simp only [pure_eq, Prod.mk.injEq] at h
        obtain ⟨-, rfl⟩ := h
        refine .of_run pre e1 ?_ hv
        simp only [Builtin.delete_, hts, List.getElem?_toArray, List.getElem?_cons_zero, List.getElem?_cons_succ, Sem.run_bind, hur, Result.andThen_ok, hget, checkKey_run huk hko, find, run_setObj a1 (by simp), Sem.run_pure, heap_same a1]
  · simp [EM.fail] at h

theorem rangeV_ok (C : CxOk P Γ) {t : TypeId} {x x' v : Value} (h : rangeV Γ t x s = some (v, s')) (pre : Pre Γ ρ s w s') (hx : VR ρ x x') : DoesV P Γ ρ s w (Instr.range t x') v s' := by
  simp only [rangeV, bind_eq, need_eq, pure_eq, Prod.mk.injEq] at h
  obtain ⟨it, s1, h1, -, i, s2, h2, rfl, rfl⟩ := h
  obtain ⟨rfl, l1, l2, l3⟩ := hnew_spec h2
  simp only [rangeObj, have_eq] at h1
  obtain ⟨ti, hti, h1⟩ := h1
  obtain ⟨hur, -, -, -, -⟩ := ty_run C hti
  -- the iterator, and its object
  have fin : ∀ (o : Obj), s1.h = s.h → s1.nx = s.nx → (∀ w, (Instr.range t x').run P w = (do let r ← newObj o; pure (Value.pointer (some ⟨r, 0, none⟩)) : Sem Value).run P w) →
      OR Γ (ρ.add s.nx ⟨w.heap.size, 0, 0, 0, 0, false, false⟩) { w with heap := w.heap.push o } ⟨w.heap.size, 0, 0, 0, 0, false, false⟩ it →
      DoesV P Γ ρ s w (Instr.range t x') (.pointer (some ⟨s1.nx, 0, none⟩)) s' := by
    intro o e1 n1 hr hor
    refine ⟨.pointer (some ⟨w.heap.size, 0, none⟩), _, ρ.add s.nx ⟨w.heap.size, 0, 0, 0, 0, false, false⟩, by rw [hr w]; rfl, ?_, ?_⟩
    · rw [n1]
      have := VR.ptr (ρ := ρ.add s.nx ⟨w.heap.size, 0, 0, 0, 0, false, false⟩) s.nx 0 _ (Rho.add_self _ _ _) rfl
      simpa using this
    · rw [n1] at l1 l2 l3
      rw [e1] at l2
      exact Stp.new (by omega) pre.inv (pre.free _ (Nat.le_refl _) (by omega)) rfl l2 (by omega) hor
  have hnew : ∀ o : Obj, ({ w with heap := w.heap.push o } : World).heap[w.heap.size]? = some o := fun o => by show (w.heap.push o)[w.heap.size]? = _; simp
  cases hfs : ti.u <;> rw [hfs] at h1 hur <;> dsimp only at h1 <;> try (simp [EM.fail] at h1; done)
  · cases x <;> (try dsimp only at h1) <;> try (simp [EM.fail] at h1; done)
    rename_i z
    cases hx
    simp only [pure_eq, Prod.mk.injEq] at h1
    obtain ⟨rfl, rfl⟩ := h1
    exact fin (.stringIter z 0) rfl rfl (fun w => by simp only [Instr.range, Sem.run_bind, hur, Result.andThen_ok, Sem.run_pure]) ⟨hnew _, rfl, rfl⟩
  · rename_i key elem
    cases x <;> (try dsimp only at h1) <;> try (simp [EM.fail] at h1; done)
    rename_i m
    cases m with
    | none =>
      simp only [pure_eq, Prod.mk.injEq] at h1
      obtain ⟨rfl, rfl⟩ := h1
      cases hx
      exact fin (.mapIter none 0 #[] 0) rfl rfl (fun w => by simp only [Instr.range, Sem.run_bind, hur, Result.andThen_ok, Sem.run_pure]) ⟨none, hnew _, trivial, rfl, rfl⟩
    | some r =>
      simp only [bind_eq, have_eq, pure_eq, Prod.mk.injEq] at h1
      obtain ⟨o, s3, g0, e, h2', rfl, rfl⟩ := h1
      obtain ⟨y, g1, rfl, e1, n1⟩ := hget_spec g0
      cases y <;> simp only [strip, entries] at h2' <;> try (cases h2'; done)
      rename_i es clock
      obtain rfl := Option.some.inj h2'
      cases hx with
      | map r rb p1 =>
        obtain ⟨es', a1, a2, a3⟩ := pre.inv.obj _ _ rb g1 p1
        have hne : r ≠ s.nx := fun e => by
          have := pre.free s.nx (Nat.le_refl _) (by omega)
          rw [← e, p1] at this; cases this
        have hblt : rb.blk < w.heap.size := (Array.getElem?_eq_some_iff.1 a1).1
        have hg := run_getObj (P := P) (w := w) a1 (by simp)
        refine ⟨.pointer (some ⟨w.heap.size, 0, none⟩), { w with heap := w.heap.push (.mapIter (some rb.blk) clock #[] clock) }, ρ.add s.nx ⟨w.heap.size, 0, 0, 0, 0, false, false⟩, ?_, ?_, ?_⟩
        · simp only [Instr.range, Sem.run_bind, hur, Result.andThen_ok, hg, Sem.run_pure, run_newObj]
        · rw [n1]
          have := VR.ptr (ρ := ρ.add s.nx ⟨w.heap.size, 0, 0, 0, 0, false, false⟩) s.nx 0 _ (Rho.add_self _ _ _) rfl
          simpa using this
        · rw [n1] at l1 l2 l3
          rw [e1] at l2
          refine Stp.new (by omega) pre.inv (pre.free _ (Nat.le_refl _) (by omega)) rfl l2 (by omega) ⟨some rb.blk, hnew _, ⟨rb, ?_, rfl⟩, rfl, rfl⟩
          exact (Rho.le_add (pre.free _ (Nat.le_refl _) (by omega))).get _ _ p1

theorem ERs.filter {es : List (Value × Value × Nat)} {es' : List MapEntry} (p : Nat → Bool) (h : ERs ρ es es') : ERs ρ (es.filter fun x => p x.2.2) (es'.filter fun e => p e.born) := by
  induction es generalizing es' with
  | nil =>
    have : es' = [] := by have := h.1; simp at this; exact List.eq_nil_of_length_eq_zero this.symm
    subst this; exact h
  | cons e es ih =>
    cases es' with
    | nil => have := h.1; simp at this
    | cons e' es' =>
      obtain ⟨a1, a2, a3, a4⟩ := h.2 0 e e' rfl rfl
      have h' : ERs ρ es es' := ⟨by simpa using h.1, fun j x x' hx hx' => h.2 (j + 1) x x' (by simpa using hx) (by simpa using hx')⟩
      have i := ih h'
      simp only [List.filter_cons, a4]
      cases hp : p e.2.2 with
      | false => simpa using i
      | true =>
        simp only [if_true]
        refine ⟨by simp [i.1], fun j x x' hx hx' => ?_⟩
        cases j with
        | zero => simp at hx hx'; subst hx hx'; exact ⟨a1, a2, a3, a4⟩
        | succ j => exact i.2 j x x' (by simpa using hx) (by simpa using hx')

theorem ERs.all {es : List (Value × Value × Nat)} {es' : List MapEntry} (p : Nat → Bool) (h : ERs ρ es es') : (es.all fun x => p x.2.2) = (es'.all fun e => p e.born) := by
  induction es generalizing es' with
  | nil =>
    have : es' = [] := by have := h.1; simp at this; exact List.eq_nil_of_length_eq_zero this.symm
    subst this; rfl
  | cons e es ih =>
    cases es' with
    | nil => have := h.1; simp at this
    | cons e' es' =>
      obtain ⟨a1, a2, a3, a4⟩ := h.2 0 e e' rfl rfl
      have h' : ERs ρ es es' := ⟨by simpa using h.1, fun j x x' hx hx' => h.2 (j + 1) x x' (by simpa using hx) (by simpa using hx')⟩
      simp only [List.all_cons, a4, ih h']

theorem ble_decide (a b : Nat) : Nat.ble a b = decide (a ≤ b) := by
  rw [Bool.eq_iff_iff, decide_eq_true_iff]
  exact ⟨Nat.le_of_ble_eq_true, Nat.ble_eq_true_of_le⟩

theorem blockOf_eq {x : Value} {r : Nat} (h : blockOf x = some r) : x = .pointer (some ⟨r, 0, none⟩) := by
  unfold blockOf at h
  split at h
  · rw [Option.some.inj h]
  · cases h

theorem nextV_ok {x x' v : Value} {b : Bool} {t : TypeId} (h : nextV x b s = some (v, s')) (pre : Pre Γ ρ s w s') (hx : VR ρ x x') : DoesV P Γ ρ s w (Instr.next x' b t) v s' := by
  simp only [nextV, have_eq, bind_eq] at h
  obtain ⟨r, hr, it, s1, h1, h⟩ := h
  obtain rfl := blockOf_eq hr
  obtain ⟨y, g1, rfl, e1, n1⟩ := hget_spec h1
  cases hx with
  | ptr _ _ rb p1 p2 =>
    have O := pre.inv.obj r _ rb g1 p1
    have hlim := pre.inv.lim _ _ p1
    cases y <;> simp only [strip] at h <;> try (simp [EM.fail] at h; done)
    · rename_i z pos
      obtain ⟨o1, o2, o3⟩ := O
      simp only [need_eq] at h
      obtain ⟨rfl, h⟩ := h
      have hg := run_getObj (P := P) (w := w) o1 (by simp)
      have hblt : rb.blk < w.heap.size := (Array.getElem?_eq_some_iff.1 o1).1
      unfold nextStr at h
      cases hlt : Nat.blt pos z.size with
      | true =>
        simp only [hlt, cond_true, bind_eq, pure_eq, Prod.mk.injEq] at h
        obtain ⟨_, s2, h2, rfl, rfl⟩ := h
        obtain ⟨q, d1, d2, d3, d4, d5⟩ := hset_spec h2
        rw [e1] at d1 d4
        have hlt' : pos < z.size := Nat.le_of_ble_eq_true hlt
        refine ⟨_, { w with heap := w.heap.setIfInBounds rb.blk (.stringIter z (pos + (Utf8.decode z pos).2)) }, ρ, ?_, VR.tup' (VRs.cons (.bool true) (VRs.cons (.int .i64 pos) (VRs.cons (.int .i32 _) (VRs.nil _)))), ?_⟩
        · simp only [Instr.next, o3, Nat.zero_add, Sem.run_bind, hg, Result.andThen_ok, hlt', if_true, run_setObj o1 (by simp), Sem.run_pure]
          rfl
        · exact Stp.put (x' := .strIter z (pos + (Utf8.decode z pos).2)) hlim pre.inv g1 rfl p1 p2 d4 ⟨by rw [heap_set hblt, if_pos rfl], o2, o3⟩
      | false =>
        simp only [hlt, cond_false, pure_eq, Prod.mk.injEq] at h
        obtain ⟨rfl, rfl⟩ := h
        have hlt' : ¬ pos < z.size := fun hh => by
          have : Nat.blt pos z.size = true := Nat.ble_eq_true_of_le hh
          rw [hlt] at this; cases this
        refine .of_run pre e1 (v' := .tuple #[.bool false]) ?_ (VR.tup' (VRs.cons (.bool false) (VRs.nil _)))
        simp only [Instr.next, o3, Nat.zero_add, Sem.run_bind, hg, Result.andThen_ok, hlt', if_false, Sem.run_pure]
    · rename_i m since seen last
      obtain ⟨m', o1, o2, o3, o4⟩ := O
      have hg := run_getObj (P := P) (w := w) o1 (by simp)
      have hblt : rb.blk < w.heap.size := (Array.getElem?_eq_some_iff.1 o1).1
      cases m with
      | none =>
        simp only [need_eq, pure_eq, Prod.mk.injEq, Bool.not_eq_true'] at h
        obtain ⟨rfl, rfl, rfl⟩ := h
        cases m' with
        | some _ => exact o2.elim
        | none =>
          refine .of_run pre e1 (v' := .tuple #[.bool false]) ?_ (VR.tup' (VRs.cons (.bool false) (VRs.nil _)))
          simp only [Instr.next, o4, Nat.zero_add, Sem.run_bind, hg, Result.andThen_ok, Sem.run_pure]
      | some mm =>
        simp only [need_eq, Bool.not_eq_true'] at h
        obtain ⟨rfl, h⟩ := h
        cases m' with
        | none => exact o2.elim
        | some mb =>
          obtain ⟨rbm, r1, rfl⟩ := o2
          simp only [nextMap, bind_eq, have_eq, need_eq] at h
          obtain ⟨om, s2, h2, e, h3, hcond, h⟩ := h
          obtain ⟨ym, g2, rfl, e2, n2⟩ := hget_spec h2
          rw [e1] at g2
          cases ym <;> simp only [strip, entries] at h3 <;> try (cases h3; done)
          rename_i es clock
          obtain rfl := Option.some.inj h3
          obtain ⟨es', a1, a2, a3⟩ := pre.inv.obj _ _ rbm g2 r1
          have hgm := run_getObj (P := P) (w := w) a1 (by simp)
          obtain ⟨l⟩ := es'
          have a2' : ERs ρ es l := a2
          have hc : (!seen.isEmpty && !l.isEmpty && l.all fun e => decide (e.born ≥ last)) = false := by
            have e1 := a2'.all fun n => Nat.ble last n
            have e2 : es.isEmpty = l.isEmpty := by
              have := a2'.1
              cases es <;> cases l <;> simp at this ⊢
            simp only [ble_decide] at e1 hcond
            rw [← e2, ← e1]
            rw [Bool.not_eq_true'] at hcond
            exact hcond
          have hl := a2'.filter fun n => !seen.contains n
          have next0 : (Instr.next (.pointer (some ⟨rb.blk, rb.off + 0, none⟩)) false t).run P w = ((do
              let left := (l.filter fun e => !seen.contains e.born).toArray
              let old := left.filter (·.born < since)
              let new := left.filter (·.born ≥ since)
              let candidates := (if old.isEmpty then #[none] else #[]) ++ (old ++ new).map some
              match candidates[← choose (.mapNext candidates.size)]? with
              | some (some e) =>
                setObj rb.blk (.mapIter (some rbm.blk) since (seen.toArray.push e.born) clock)
                pure (.tuple #[.bool true, e.key, e.val])
              | some none => pure (.tuple #[.bool false])
              | none => stuck "Next: no such candidate") : Sem Value).run P w := by
            simp only [Instr.next, o4, Nat.zero_add, Sem.run_bind, hg, Result.andThen_ok, hgm]
            have e3 : (!(seen.toArray).isEmpty && !(l.toArray).isEmpty && (l.toArray).all fun e => decide (e.born ≥ last)) = false := by
              simpa using hc
            simp only [e3, Bool.false_eq_true, if_false, List.filter_toArray, List.contains_toArray]
            rw [Sem.run_bind]
            rfl
          generalize hfil : List.filter (fun x : Value × Value × Nat => !seen.contains x.2.2) (es, clock).fst = L at h
          have hfil' : List.filter (fun x : Value × Value × Nat => !seen.contains x.2.2) es = L := hfil
          rcases L with _ | ⟨x, _ | ⟨y, L⟩⟩ <;> dsimp only at h
          · simp only [pure_eq, Prod.mk.injEq] at h
            obtain ⟨rfl, rfl⟩ := h
            rw [hfil'] at hl
            have hnil : (l.filter fun e => !seen.contains e.born) = [] := by
              have := hl.1; simp only [List.length_nil] at this; exact List.eq_nil_of_length_eq_zero this.symm
            refine .of_run pre (by rw [e2, e1]) (v' := .tuple #[.bool false]) ?_ (VR.tup' (VRs.cons (.bool false) (VRs.nil _)))
            rw [next0, hnil]
            simp [Question.forced]
          · simp only [need_eq, bind_eq, pure_eq, Prod.mk.injEq] at h
            obtain ⟨hlt, _, s3, h4, rfl, rfl⟩ := h
            obtain ⟨q, d1, d2, d3, d4, d5⟩ := hset_spec h4
            rw [e2, e1] at d1 d4
            rw [hfil'] at hl
            obtain ⟨e', hone⟩ : ∃ e', (l.filter fun e => !seen.contains e.born) = [e'] := by
              have := hl.1
              simp only [List.length_cons, List.length_nil, Nat.zero_add] at this
              exact List.length_eq_one_iff.1 this.symm
            rw [hone] at hl
            obtain ⟨k1, k2, k3, k4⟩ := hl.2 0 x e' rfl rfl
            have hlt' : e'.born < since := by rw [k4]; exact Nat.le_of_ble_eq_true hlt
            refine ⟨.tuple #[.bool true, e'.key, e'.val], { w with heap := w.heap.setIfInBounds rb.blk (.mapIter (some rbm.blk) since (seen.toArray.push e'.born) clock) }, ρ, ?_, ?_, ?_⟩
            · rw [next0, hone]
              have h1 : decide (e'.born < since) = true := by simpa using hlt'
              have h2 : decide (e'.born ≥ since) = false := by simp; omega
              have f1 : (#[e'] : Array MapEntry).filter (fun e => decide (e.born < since)) = #[e'] := by simp [hlt']
              have f2 : (#[e'] : Array MapEntry).filter (fun e => decide (e.born ≥ since)) = #[] := by simp; omega
              simp only [f1, f2]
              simp [Question.forced, run_setObj o1 (by simp)]
            · exact VR.tup' (VRs.cons (.bool true) (VRs.cons (by rw [k1]; exact flat_VR ρ k2) (VRs.cons k3 (VRs.nil _))))
            · refine Stp.put (x' := .mapIter (some mm) since (seen ++ [x.2.2]) clock) hlim pre.inv g1 rfl p1 p2 d4 ⟨some rbm.blk, ?_, ⟨rbm, r1, rfl⟩, o3, o4⟩
              rw [heap_set hblt, if_pos rfl, k4]; simp
          · simp [EM.fail] at h

theorem findBorn_ok {n : Nat} : ∀ {es : List (Value × Value × Nat)} {es' : List MapEntry} {kv : Value × Value}, findBorn n es = some kv → ERs ρ es es' → ∃ e', es'.find? (·.born == n) = some e' ∧ VR ρ kv.1 e'.key ∧ VR ρ kv.2 e'.val := by
  intro es
  induction es with
  | nil => intro es' kv h; cases h
  | cons e es ih =>
    intro es' kv h he
    cases es' with
    | nil => have := he.1; simp at this
    | cons e' es' =>
      obtain ⟨a1, a2, a3, a4⟩ := he.2 0 e e' rfl rfl
      have h' : ERs ρ es es' := ⟨by simpa using he.1, fun j x x' hx hx' => he.2 (j + 1) x x' (by simpa using hx) (by simpa using hx')⟩
      simp only [findBorn] at h
      cases hb : Nat.beq e.2.2 n with
      | true =>
        rw [hb, cond_true] at h
        obtain rfl := Option.some.inj h
        have : e'.born = n := by rw [a4]; exact Nat.eq_of_beq_eq_true hb
        exact ⟨e', by simp [this], by rw [a1]; exact flat_VR ρ a2, a3⟩
      | false =>
        rw [hb, cond_false] at h
        have hne : e'.born ≠ n := by rw [a4]; exact fun e0 => by rw [e0, Nat.beq_refl] at hb; cases hb
        obtain ⟨x, b1, b2, b3⟩ := ih h h'
        exact ⟨x, by simp [hne, b1], b2, b3⟩

theorem entryV_ok {x x' v : Value} (h : entryV x s = some (v, s')) (pre : Pre Γ ρ s w s') (hx : VR ρ x x') : DoesV P Γ ρ s w (Instr.entry x') v s' := by
  simp only [entryV, have_eq, bind_eq] at h
  obtain ⟨r, hr, it, s1, h1, h⟩ := h
  obtain rfl := blockOf_eq hr
  obtain ⟨y, g1, rfl, e1, n1⟩ := hget_spec h1
  cases hx with
  | ptr _ _ rb p1 p2 =>
    have O := pre.inv.obj r _ rb g1 p1
    cases y <;> simp only [strip] at h <;> try (simp [EM.fail] at h; done)
    rename_i m since seen last
    cases m <;> (try dsimp only at h) <;> try (simp [EM.fail] at h; done)
    rename_i mm
    obtain ⟨m', o1, o2, o3, o4⟩ := O
    have hg := run_getObj (P := P) (w := w) o1 (by simp)
    cases m' with
    | none => exact o2.elim
    | some mb =>
      obtain ⟨rbm, r1, rfl⟩ := o2
      simp only [bind_eq, have_eq, need_eq, pure_eq, Prod.mk.injEq] at h
      obtain ⟨stamp, hst, om, s2, h2, e, h3, hcond, kv, hkv, rfl, rfl⟩ := h
      obtain ⟨ym, g2, rfl, e2, n2⟩ := hget_spec h2
      rw [e1] at g2
      cases ym <;> simp only [strip, entries] at h3 <;> try (cases h3; done)
      rename_i es clock
      obtain rfl := Option.some.inj h3
      obtain ⟨es', a1, a2, a3⟩ := pre.inv.obj _ _ rbm g2 r1
      have hgm := run_getObj (P := P) (w := w) a1 (by simp)
      obtain ⟨e', f1, f2, f3⟩ := findBorn_ok hkv a2
      obtain ⟨l⟩ := es'
      have hcl : clock = last := Nat.eq_of_beq_eq_true hcond
      refine .of_run pre (by rw [e2, e1]) (v' := .tuple #[e'.key, e'.val]) ?_ (VR.tup' (VRs.cons f2 (VRs.cons f3 (VRs.nil _))))
      have hb : seen.toArray.back? = some stamp := by rw [List.getLast?_eq_getElem?] at hst; simpa [Array.back?] using hst
      simp only [Instr.entry, o4, Nat.zero_add, Sem.run_bind, hg, Result.andThen_ok, hb, hgm, hcl, bne_self_eq_false, Bool.false_eq_true, if_false, List.find?_toArray, f1, Sem.run_pure]

end ops
end Go.Ideal

/-
  What an operation does in the ideal heap, it does in the world: every operation that calls nothing. Conditions: none.
-/
import Derived.Test.YtpoaiachllclhaaGreatDoorOps11
namespace Go.Ideal
open Go

section ops
variable {P : Program} {Γ : Cx} {ρ : Rho} {s s' : HS} {w : World}

theorem partsV {T : Env} {a : Act} (tr : TR ρ T a.tmps) : ∀ {l : List (Nat × Operand)} {vs : List (Nat × Value)}, parts l T = some vs → PR ρ vs (l.map fun p => (p.1, a.eval p.2)) := by
  intro l
  induction l with
  | nil => intro vs h; obtain rfl := Option.some.inj h; exact ⟨rfl, fun j p p' h => by simp at h⟩
  | cons x l ih =>
    intro vs h
    simp only [parts, Opt.go_eq] at h
    obtain ⟨v, hv, r, hr, h⟩ := h
    obtain rfl := Option.some.inj h
    have hi := ih hr
    refine ⟨by simpa using hi.1, fun j p p' hp hp' => ?_⟩
    cases j with
    | zero =>
      simp at hp hp'
      subst hp hp'
      exact ⟨rfl, lookV hv tr⟩
    | succ j => exact hi.2 j p p' (by simpa using hp) (by simpa using hp')

/-- What an operation of the evaluator stands for. -/
def DoesO (P : Program) (Γ : Cx) (ρ : Rho) (s : HS) (w : World) (r : Sem Next) (v : Value) (s' : HS) : Prop :=
  ∃ n v' w' ρ', r.run P w = .ok n w' ∧ (n = .value v' ∨ n = .skip ∧ v' = undef) ∧ VR ρ' v v' ∧ Stp Γ ρ s w ρ' s' w'

theorem DoesB.o {r : Sem Next} {v : Value} (h : DoesB P Γ ρ s w r v s') : DoesO P Γ ρ s w r v s' := by
  obtain ⟨v', w', ρ', h1, h2, h3⟩ := h
  exact ⟨_, v', w', ρ', h1, .inl rfl, h2, h3⟩
theorem DoesV.o {r : Sem Value} {v : Value} (h : DoesV P Γ ρ s w r v s') : DoesO P Γ ρ s w (do let x ← r; Pure.pure (Next.value x)) v s' := h.b.o
theorem DoesU.o {r : Sem Unit} (h : DoesU P Γ ρ s w r s') : DoesO P Γ ρ s w (do r; Pure.pure Next.skip) undefV s' := by
  obtain ⟨w', ρ', h1, h2⟩ := h
  exact ⟨.skip, undef, w', ρ', by simp only [Sem.run_bind, h1, Result.andThen_ok, Sem.run_pure], .inr ⟨rfl, rfl⟩, VR.tup' (VRs.nil _), h2⟩
theorem DoesO.pure {v v' : Value} (pre : Pre Γ ρ s w s') (hh : s'.h = s.h) (hv : VR ρ v v') {r : Sem Next} (hr : r.run P w = .ok (.value v') w) : DoesO P Γ ρ s w r v s' :=
  ⟨_, v', w, ρ, hr, .inl rfl, hv, Stp.same pre.inv hh⟩

theorem addrOf_eq {v : Value} {a : Addr} (h : addrOf v = some a) : v = .pointer (some a) := by
  unfold addrOf at h
  split at h
  · rw [Option.some.inj h]
  · cases h

set_option maxHeartbeats 4000000 in
theorem plainOp_ok (C : CxOk P Γ) {o : Oper} {T : Env} {a : Act} {v : Value} (h : plainOp o.op Γ T s = some (v, s')) (pre : Pre Γ ρ s w s') (tr : TR ρ T a.tmps) : DoesO P Γ ρ s w (execOp a.eval o) v s' := by
  unfold execOp
  cases ho : o.op <;> rw [ho] at h <;> dsimp only [plainOp] at h ⊢ <;> try (simp [EM.fail] at h; done)
  case move x =>
    simp only [lift_eq, Prod.mk.injEq] at h
    obtain ⟨u, hu, rfl, rfl⟩ := h
    exact .pure pre rfl (lookV hu tr) rfl
  case assign x =>
    simp only [lift_eq, Prod.mk.injEq] at h
    obtain ⟨u, hu, rfl, rfl⟩ := h
    exact .pure pre rfl (lookV hu tr) rfl
  case pick c x y =>
    simp only [have_eq, lift_eq, Prod.mk.injEq] at h
    obtain ⟨cv, hc, u, hu, rfl, rfl⟩ := h
    have hcv := lookV hc tr
    cases cv <;> simp only [pickV] at hu <;> try (cases hu; done)
    rename_i b
    generalize a.eval c = c' at hcv ⊢
    cases hcv
    cases b with
    | true => rw [cond_true] at hu; exact .pure pre rfl (lookV hu tr) (by simp [asBool])
    | false => rw [cond_false] at hu; exact .pure pre rfl (lookV hu tr) (by simp [asBool])
  case alloc t =>
    simp only [have_eq, bind_eq, pure_eq, Prod.mk.injEq] at h
    obtain ⟨ti, hti, ad, s1, h1, rfl, rfl⟩ := h
    exact (allocV_ok C hti h1 pre).o
  case box t x =>
    simp only [have_eq, bind_eq, pure_eq, Prod.mk.injEq] at h
    obtain ⟨u, hu, ad, s1, h1, rfl, rfl⟩ := h
    exact (boxV_ok h1 pre (lookV hu tr)).o
  case build t ps =>
    simp only [have_eq, lift_eq, Prod.mk.injEq] at h
    obtain ⟨l, hl, u, hu, rfl, rfl⟩ := h
    have hp := partsV tr hl
    obtain ⟨v', r1, r2⟩ := buildV_ok (ps' := ps.map fun p => (p.1, a.eval p.2)) C hu (by simpa using hp)
    exact (DoesV.of_run pre rfl (r1 w) r2).o
  case buildSlice t len ps =>
    simp only [have_eq] at h
    obtain ⟨l, hl, h⟩ := h
    have hp := partsV tr hl
    exact (buildSliceV_ok (ps := ps.map fun p => (p.1, a.eval p.2)) C h pre (by simpa using hp)).o
  case load t x =>
    simp only [have_eq] at h
    obtain ⟨u, hu, ad, had, h⟩ := h
    obtain rfl := addrOf_eq had
    have hx := lookV hu tr
    obtain ⟨b, o, sp⟩ := ad
    generalize a.eval x = x' at hx ⊢
    cases hx with
    | ptr b o rb p1 p2 =>
      obtain ⟨v', r1, r2, r3, r4⟩ := loadV_ok C h pre.inv p1 p2
      exact (DoesV.of_run pre r3 (r := Instr.loadAt t (.pointer (some ⟨rb.blk, rb.off + o, none⟩))) (by simp only [Instr.loadAt, Instr.sureAddr, Sem.run_bind, Sem.run_pure, Result.andThen_ok]; exact r1) r2).o
  case store t x y =>
    simp only [have_eq, bind_eq, pure_eq, Prod.mk.injEq] at h
    obtain ⟨u, hu, ad, had, y', hy', un, s1, h, rfl, rfl⟩ := h
    obtain rfl := addrOf_eq had
    have hx := lookV hu tr
    obtain ⟨b, o, sp⟩ := ad
    generalize a.eval x = x' at hx ⊢
    cases hx with
    | ptr b o rb p1 p2 =>
      obtain ⟨w', r1, r2⟩ := storeV_ok (P := P) C h pre.inv p1 p2 (lookV hy' tr)
      exact (show DoesU P Γ ρ s w (Instr.storeAt t (.pointer (some ⟨rb.blk, rb.off + o, none⟩)) (a.eval y)) s' from ⟨w', ρ, by simp only [Instr.storeAt, Instr.sureAddr, Sem.run_bind, Sem.run_pure, Result.andThen_ok]; exact r1, r2⟩).o
  case nilCheck x =>
    simp only [have_eq, lift_eq, Prod.mk.injEq] at h
    obtain ⟨u, hu, u2, hu2, rfl, rfl⟩ := h
    have hx := lookV hu tr
    generalize a.eval x = x' at hx ⊢
    unfold nilOk at hu2
    split at hu2 <;> first | (cases hu2; done) | obtain rfl := Option.some.inj hu2
    · cases hx with
      | ptr b o rb h1 h2 => exact .pure pre rfl (.ptr b o rb h1 h2) rfl
    · cases hx with
      | fn f l l' m m' h1 h2 h3 h4 => exact .pure pre rfl (.fn _ _ _ _ _ h1 h2 h3 h4) rfl
    · cases hx with
      | yld l rb h1 => exact .pure pre rfl (.yld _ rb h1) rfl
  case binOp op t x y z =>
    simp only [have_eq] at h
    obtain ⟨xv, hxv, yv, hyv, h⟩ := h
    cases hsy : (isSym xv || isSym yv) with
    | true =>
      rw [hsy, cond_true, lift_eq] at h
      obtain ⟨u, hu, hus⟩ := h
      obtain ⟨rfl, rfl⟩ := Prod.mk.inj hus
      obtain ⟨r', ⟨g1, g2, g3⟩, g4⟩ := C.rule _ _ _ hu ρ pre.fix.val _ (VRs.cons (lookV hxv tr) (VRs.cons (lookV hyv tr) (VRs.nil _)))
      exact (DoesV.of_run pre rfl (r := (do eqGuard op t x y (a.eval x) (a.eval y); Go.binOp op t (a.eval x) (a.eval y))) (by simp only [Sem.run_bind, eqGuard_run (P := P) (w := w) (op := op) (t := t) (x := x) (y := y) (b := a.eval y) g2 g1, Result.andThen_ok, g3 t w]) g4).o
    | false =>
      rw [hsy, cond_false] at h
      exact (binV_ok C h pre (lookV hxv tr) (lookV hyv tr)).o
  case unOp op t x =>
    simp only [have_eq] at h
    obtain ⟨xv, hxv, h⟩ := h
    cases hsy : isSym xv with
    | true =>
      rw [hsy, cond_true, lift_eq] at h
      obtain ⟨u, hu, hus⟩ := h
      obtain ⟨rfl, rfl⟩ := Prod.mk.inj hus
      obtain ⟨r', g1, g2⟩ := C.rule _ _ _ hu ρ pre.fix.val _ (VRs.cons (lookV hxv tr) (VRs.nil _))
      exact (DoesV.of_run pre rfl (r := Op.unary op (a.eval x)) (g1 w) g2).o
    | false =>
      rw [hsy, cond_false, lift_eq] at h
      obtain ⟨u, hu, hus⟩ := h
      obtain ⟨rfl, rfl⟩ := Prod.mk.inj hus
      obtain ⟨r1, r2⟩ := unV_ok (P := P) (w := w) hu (lookV hxv tr)
      exact (DoesV.of_run pre rfl r1 r2).o
  case convert t u x =>
    simp only [have_eq] at h
    obtain ⟨xv, hxv, h⟩ := h
    cases hsy : isSym xv with
    | true =>
      rw [hsy, cond_true, lift_eq] at h
      obtain ⟨z, hz, hzs⟩ := h
      obtain ⟨rfl, rfl⟩ := Prod.mk.inj hzs
      obtain ⟨r', g1, g2⟩ := C.rule _ _ _ hz ρ pre.fix.val _ (VRs.cons (lookV hxv tr) (VRs.nil _))
      exact (DoesV.of_run pre rfl (r := convert t u (a.eval x)) (g1 w) g2).o
    | false =>
      rw [hsy, cond_false] at h
      exact (convertV_ok C h pre (lookV hxv tr)).o
  case makeFunc fn x y =>
    cases fn <;> dsimp only at h <;> try (simp [EM.fail] at h; done)
    rename_i f
    simp only [have_eq, pure_eq, Prod.mk.injEq] at h
    obtain ⟨xs, hxs, ys, hys, rfl, rfl⟩ := h
    have h1 := argsV tr hxs
    have h2 := argsV tr hys
    refine (DoesV.of_run pre rfl (v' := .func (.func f) (x.map a.eval) (y.map a.eval)) rfl ?_).o
    have := VR.fn (ρ := ρ) f xs (x.toList.map a.eval) ys (y.toList.map a.eval) h1.1 h1.2 h2.1 h2.2
    have e : ∀ x : Array Operand, (x.toList.map a.eval).toArray = x.map a.eval := fun x => by rw [← Array.toList_map]
    rw [e, e] at this
    exact this
  case makeMap t r =>
    cases r <;> dsimp only at h <;> try (simp [EM.fail] at h; done)
    simp only [bind_eq, pure_eq, Prod.mk.injEq] at h
    obtain ⟨i, s1, h1, rfl, rfl⟩ := h
    obtain ⟨rfl, l1, l2, l3⟩ := hnew_spec h1
    have st := Stp.new (x := .map [] 0) (rb := ⟨w.heap.size, 0, 0, 0, 0, false, false⟩) (o := .map #[] 0) (by omega) pre.inv (pre.free _ (Nat.le_refl _) (by omega)) rfl l2 (by omega)
      ⟨#[], by show (w.heap.push _)[w.heap.size]? = _; simp, ⟨rfl, fun j e1 e2 he1 => by simp at he1⟩, rfl⟩
    refine (show DoesV P Γ ρ s w (Instr.makeMap t (Option.map a.eval none)) (.map (some s.nx)) s' from ⟨.map (some w.heap.size), _, _, ?_, VR.map _ _ (Rho.add_self _ _ _), st⟩).o
    simp only [Instr.makeMap, Option.map_none, Sem.run_bind, Sem.run_pure, Result.andThen_ok, run_newObj]
  case makeChan t x =>
    simp only [have_eq] at h
    obtain ⟨xv, hxv, n, hn, h⟩ := h
    obtain ⟨k, e1⟩ := natOf_ok hn (lookV hxv tr)
    rw [e1]
    simp only [makeChanV, have_eq, need_eq, bind_eq, pure_eq, Prod.mk.injEq, Bool.not_eq_true'] at h
    obtain ⟨elem, hel, te, hte, hlim, i, s1, h1, rfl, rfl⟩ := h
    obtain ⟨d, hd⟩ := C.chan _ _ hel
    obtain ⟨-, -, -, ⟨ie, hie, hby, -⟩, -⟩ := ty_run C hte
    have hlim : n * (te.bytes + 1) < 1000000 := ble_false hlim
    have hm : n < 1000000 := by
      have : n * 1 ≤ n * (te.bytes + 1) := Nat.mul_le_mul_left _ (by omega)
      omega
    have hmb : te.bytes * n < 1000000 := by
      have : n * (te.bytes + 1) = te.bytes * n + n := by rw [Nat.mul_add, Nat.mul_comm]; omega
      omega
    obtain ⟨rfl, l1, l2, l3⟩ := hnew_spec h1
    have st := Stp.new (x := .chan n []) (rb := ⟨w.heap.size, 0, 0, 0, 0, false, false⟩) (o := .chan n #[] false 0 0 false) (by omega) pre.inv (pre.free _ (Nat.le_refl _) (by omega)) rfl l2 (by omega)
      ⟨⟨#[], 0, 0, by show (w.heap.push _)[w.heap.size]? = _; simp, VRs.nil _⟩, rfl⟩
    refine (show DoesV P Γ ρ s w (Instr.makeChan t (.int k n)) (.chan (some s.nx)) s' from ⟨.chan (some w.heap.size), _, _, ?_, VR.chan _ _ (Rho.add_self _ _ _), st⟩).o
    have hu : ∀ w, (underlying t).run P w = .ok (.chan d elem) w := fun w => by simp [underlying, hd]
    have hinfo : ∀ w, (typeInfo elem).run P w = .ok ie w := fun w => by simp [typeInfo, hie]
    have c0 : ((te.bytes * n : Nat) : Int) < ((1000000 : Nat) : Int) := Int.ofNat_lt.2 hmb
    rw [Int.natCast_mul] at c0
    have c1 : ¬ ((n : Int) < 0 ∨ (n : Int) > IntKind.i64.max ∨ (te.bytes : Int) * (n : Int) > 2 ^ 48 - 112) := by
      simp [IntKind.max, IntKind.bits, IntKind.signed]
      omega
    simp only [Instr.makeChan, asInt, asIntOf, Sem.run_bind, Sem.run_pure, Result.andThen_ok, hu, hinfo, hby, if_neg c1, run_newObj, Int.toNat_natCast]
  case makeSlice t l c =>
    simp only [have_eq] at h
    obtain ⟨lv, hlv, cv, hcv, h⟩ := h
    unfold makeAny at h
    split at h
    · rename_i lo hi
      simp only [need_eq] at h
      obtain ⟨hs, h⟩ := h
      obtain rfl := sameTmp_eq hs
      have hv := lookV hlv tr
      generalize a.eval l = x at hv ⊢
      cases hv with
      | sym lo hi z g1 g2 g3 => exact (makeSym_ok C h pre g1 g2).o
    · simp only [have_eq] at h
      obtain ⟨n, hn, m, hm, h⟩ := h
      obtain ⟨k, e1⟩ := natOf_ok hn (lookV hlv tr)
      obtain ⟨k', e2⟩ := natOf_ok hm (lookV hcv tr)
      rw [e1, e2]
      exact (makeSliceV_ok C h pre).o
  case slice t x lo hi mx =>
    simp only [have_eq] at h
    obtain ⟨xv, hxv, l, hl, u, hu, m, hm, h⟩ := h
    cases hsy : isSym xv with
    | true =>
      rw [hsy, cond_true] at h
      have o1 := optV tr hl
      have o2 := optV tr hu
      have o3 := optV tr hm
      unfold cutV at h
      split at h
      · simp [EM.fail] at h
      · split at h
        · simp [EM.fail] at h
        · split at h
          · simp [EM.fail] at h
          · rw [lift_eq] at h
            obtain ⟨z, hz, hzs⟩ := h
            obtain ⟨rfl, rfl⟩ := Prod.mk.inj hzs
            generalize Option.map a.eval lo = lo' at o1 ⊢
            generalize Option.map a.eval hi = hi' at o2 ⊢
            generalize Option.map a.eval mx = mx' at o3 ⊢
            cases lo' with
            | some _ => exact o1.elim
            | none =>
              cases mx' with
              | some _ => exact o3.elim
              | none =>
                cases hi' with
                | none => exact o2.elim
                | some hv =>
                  obtain ⟨r', g1, g2⟩ := C.rule _ _ _ hz ρ pre.fix.val _ (VRs.cons (lookV hxv tr) (VRs.cons o2 (VRs.nil _)))
                  exact (DoesV.of_run pre rfl (r := Instr.sliceAt t (a.eval x) none (some hv) none) (g1 w) g2).o
    | false =>
      rw [hsy, cond_false] at h
      exact (sliceV_ok C h pre (lookV hxv tr) (optV tr hl) (optV tr hu) (optV tr hm)).o
  case fieldAddr t x f =>
    simp only [have_eq] at h
    obtain ⟨xv, hxv, ad, had, h⟩ := h
    obtain rfl := addrOf_eq had
    exact (fieldAddrV_ok C h pre (lookV hxv tr)).o
  case field t x f =>
    simp only [have_eq] at h
    obtain ⟨xv, hxv, h⟩ := h
    exact (fieldV_ok C h pre (lookV hxv tr)).o
  case indexAddr t x i =>
    simp only [have_eq] at h
    obtain ⟨iv, hiv, n, hn, xv, hxv, h⟩ := h
    obtain ⟨k, e1⟩ := natOf_ok hn (lookV hiv tr)
    exact (indexAddrV_ok C h pre (lookV hxv tr) e1).o
  case index t x i =>
    simp only [have_eq] at h
    obtain ⟨iv, hiv, n, hn, xv, hxv, h⟩ := h
    obtain ⟨k, e1⟩ := natOf_ok hn (lookV hiv tr)
    exact (indexV_ok C h pre (lookV hxv tr) e1).o
  case lookup t x k ok =>
    simp only [have_eq] at h
    obtain ⟨xv, hxv, kv, hkv, h⟩ := h
    exact (lookupV_ok C h pre (lookV hxv tr) (lookV hkv tr)).o
  case mapUpdate t m k x =>
    simp only [have_eq, bind_eq, pure_eq, Prod.mk.injEq] at h
    obtain ⟨mv, hmv, kv, hkv, xv, hxv, un, s1, h, rfl, rfl⟩ := h
    exact (updateV_ok C h pre (lookV hmv tr) (lookV hkv tr) (lookV hxv tr)).o
  case insert t m k x =>
    simp only [have_eq, bind_eq, pure_eq, Prod.mk.injEq] at h
    obtain ⟨mv, hmv, kv, hkv, xv, hxv, un, s1, h, rfl, rfl⟩ := h
    exact (updateV_ok C h pre (lookV hmv tr) (lookV hkv tr) (lookV hxv tr)).o
  case range t x =>
    simp only [have_eq] at h
    obtain ⟨xv, hxv, h⟩ := h
    exact (rangeV_ok C h pre (lookV hxv tr)).o
  case next it isS =>
    simp only [have_eq] at h
    obtain ⟨xv, hxv, h⟩ := h
    exact (nextV_ok h pre (lookV hxv tr)).o
  case entry it =>
    simp only [have_eq] at h
    obtain ⟨xv, hxv, h⟩ := h
    exact (entryV_ok h pre (lookV hxv tr)).o
  case extract t i =>
    simp only [have_eq] at h
    obtain ⟨xv, hxv, h⟩ := h
    have hx := lookV hxv tr
    generalize a.eval t = t' at hx ⊢
    cases xv <;> dsimp only at h <;> try (simp [EM.fail] at h; done)
    simp only [lift_eq, Prod.mk.injEq] at h
    obtain ⟨u, hu, rfl, rfl⟩ := h
    cases hx with
    | tup l l' h1 h2 =>
      rw [List.getElem?_toArray] at hu
      obtain ⟨v', g1, g2⟩ := VRs.get ⟨h1, h2⟩ hu
      refine (DoesV.of_run pre rfl (v' := v') ?_ g2).o
      simp only [Instr.extract, List.getElem?_toArray, g1, Sem.run_pure]

end ops
end Go.Ideal

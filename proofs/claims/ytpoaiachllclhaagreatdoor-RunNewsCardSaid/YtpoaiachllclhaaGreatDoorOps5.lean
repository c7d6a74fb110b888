/-
  What an operation does in the ideal heap, it does in the world: slice expressions, maps. Conditions: none.
-/
import Derived.Test.YtpoaiachllclhaaGreatDoorOps4
import Derived.Lib.Strings
import Derived.Laws.Slices
namespace Go.Ideal
open Go

section ops
variable {P : Program} {Γ : Cx} {ρ : Rho} {s s' : HS} {w : World}

def OV (ρ : Rho) : Option Value → Option Value → Prop
  | none, none => True
  | some v, some v' => VR ρ v v'
  | _, _ => False

theorem optV {T : Env} {a : Act} (tr : TR ρ T a.tmps) {x : Option Operand} {o : Option Value} (h : opt x T = some o) : OV ρ o (x.map a.eval) := by
  cases x with
  | none => obtain rfl := Option.some.inj h; trivial
  | some x =>
    simp only [opt, Opt.go_eq] at h
    obtain ⟨v, hv, h⟩ := h
    obtain rfl := Option.some.inj h
    exact lookV hv tr

theorem bound_run (k : IntKind) (n y : Nat) (code : BoundsCode) (h : n ≤ y) : ∀ w, (Instr.sliceBound (.int k n) y code).run P w = .ok n w := by
  intro w
  simp only [Instr.sliceBound, asIntOf, Sem.run_bind, Sem.run_pure, Result.andThen_ok, Sem.run_ite]
  rw [if_pos (by omega)]; simp

theorem bounds_ok {len cap cap' : Nat} {lo hi mx lo' hi' mx' : Option Value} {b : Nat × Nat × Nat} {isS : Bool} (h : bounds len cap lo hi mx = some b) (hc : cap ≤ cap') (h1 : OV ρ lo lo') (h2 : OV ρ hi hi') (h3 : OV ρ mx mx') :
    b.1 ≤ b.2.1 ∧ b.2.1 ≤ b.2.2 ∧ b.2.2 ≤ cap ∧ ∃ m', (∀ w, (Instr.sliceBounds isS len cap' lo' hi' mx').run P w = .ok (b.1, b.2.1, m') w) ∧ (mx.isNone = true → b.2.2 = cap ∧ m' = cap') ∧ (mx.isNone = false → m' = b.2.2) := by
  simp only [bounds, Opt.go_eq] at h
  obtain ⟨m, hm, hh, hhh, l, hl, h⟩ := h
  cases hb : Nat.ble l hh && Nat.ble hh m && Nat.ble m cap && (mx.isNone || hi.isSome) with
  | false => rw [hb] at h; cases h
  | true =>
    rw [hb, cond_true] at h
    obtain rfl := Option.some.inj h
    simp only [Bool.and_eq_true] at hb
    obtain ⟨⟨⟨b1, b2⟩, b3⟩, b4⟩ := hb
    have b1 := Nat.le_of_ble_eq_true b1
    have b2 := Nat.le_of_ble_eq_true b2
    have b3 := Nat.le_of_ble_eq_true b3
    refine ⟨b1, b2, b3, ?_⟩
    -- the three bounds
    have key : ∃ m', (∀ w, (match mx' with | some v => Instr.sliceBound v cap' (if isS then .slice3Acap else .slice3Alen) | none => pure cap' : Sem Nat).run P w = .ok m' w) ∧ m ≤ m' ∧ (mx.isNone = true → m = cap ∧ m' = cap') ∧ (mx.isNone = false → m' = m) := by
      cases mx with
      | none =>
        cases mx' with
        | some v => exact h3.elim
        | none => exact ⟨cap', fun w => rfl, by omega, fun _ => ⟨(Option.some.inj hm).symm, rfl⟩, fun h => by cases h⟩
      | some v =>
        cases mx' with
        | none => exact h3.elim
        | some v' =>
          obtain ⟨k, rfl⟩ := natOf_ok hm h3
          exact ⟨m, bound_run k m cap' _ (by omega), Nat.le_refl _, (fun h => by cases h), fun _ => rfl⟩
    obtain ⟨m', k1, k2, k3, k4⟩ := key
    refine ⟨m', fun w => ?_, k3, k4⟩
    have kh : ∀ w, (match hi', mx' with
        | some v, some _ => Instr.sliceBound v m' .slice3B
        | some v, none => Instr.sliceBound v m' (if isS then .sliceAcap else .sliceAlen)
        | none, none => pure len
        | none, some _ => stuck "Slice: max without high" : Sem Nat).run P w = .ok hh w := by
      intro w
      cases hi with
      | none =>
        cases hi' with
        | some v => exact h2.elim
        | none =>
          cases mx with
          | some v => simp at b4
          | none =>
            cases mx' with
            | some v => exact h3.elim
            | none => obtain rfl := Option.some.inj hhh; rfl
      | some v =>
        cases hi' with
        | none => exact h2.elim
        | some v' =>
          obtain ⟨k, rfl⟩ := natOf_ok hhh h2
          cases mx' <;> exact bound_run k hh m' _ (by omega) w
    have kl : ∀ w, (match lo' with | some v => Instr.sliceBound v hh (if mx'.isSome then .slice3C else .sliceB) | none => pure 0 : Sem Nat).run P w = .ok l w := by
      intro w
      cases lo with
      | none =>
        cases lo' with
        | some v => exact h1.elim
        | none => obtain rfl := Option.some.inj hl; rfl
      | some v =>
        cases lo' with
        | none => exact h1.elim
        | some v' =>
          obtain ⟨k, rfl⟩ := natOf_ok hl h1
          exact bound_run k l hh _ b1 w
    have k1' := k1
    have kh' := kh
    have kl' := kl
    clear k1 kh kl
    cases mx' <;> cases hi' <;> cases lo' <;> simp only [Sem.run_pure, Result.ok.injEq, and_true, forall_const, run_stuck, reduceCtorEq] at k1' kh' kl' <;>
      first
      | (exact (kh' w).elim)
      | (simp only [Instr.sliceBounds, Sem.run_bind, Sem.run_pure, Result.andThen_ok, k1', kh', kl']; done)
      | (subst k1'; simp only [Instr.sliceBounds, Sem.run_bind, Sem.run_pure, Result.andThen_ok, kh', kl']; done)
      | (subst k1'; subst kh'; simp only [Instr.sliceBounds, Sem.run_bind, Sem.run_pure, Result.andThen_ok, kl']; done)

theorem dropL_eq : ∀ (l : List UInt8) (n : Nat), dropL l n = l.drop n := by
  intro l
  induction l with
  | nil => intro n; simp [dropL]
  | cons b l ih => intro n; cases n <;> simp [dropL, ih]
theorem takeL_eq : ∀ (l : List UInt8) (n : Nat), takeL l n = l.take n := by
  intro l
  induction l with
  | nil => intro n; simp [takeL]
  | cons b l ih => intro n; cases n <;> simp [takeL, ih]

theorem cut_eq (x : ByteArray) (l h : Nat) : (⟨(takeL (dropL x.data.toList l) (h - l)).toArray⟩ : ByteArray) = x.extract l h := by
  rw [dropL_eq, takeL_eq]
  have e : (x.extract l h).data.toList = (x.data.toList.drop l).take (h - l) := by
    rw [Lib.extract_data]
  cases hx : x.extract l h with
  | mk d =>
    rw [hx] at e
    simp only at e
    rw [← e]

/-- what a slice's capacity in the world is, where it is known -/
theorem tight_ok {b o cap c' : Nat} {sp : Option Nat} {elem : TypeId} {esz : Nat} {te : TI} {tg : Bool} {rb : RB} (hte : Γ.ty elem = some te) (hes : te.size = esz) (h : tight ⟨b, o, sp⟩ cap elem esz s = some (tg, s')) (inv : Inv Γ ρ s.h w) (hρ : ρ b = some rb) :
    s'.h = s.h ∧ s'.nx = s.nx ∧ (tg = true → rb.ghost = false ∧ (CapR rb o cap c' → c' = cap)) ∧ (tg = false → rb.ghost = false → rb.loose = true ∧ rb.esz = esz ∧ 0 < esz) := by
  simp only [tight, bind_eq, lift_eq, Prod.mk.injEq] at h
  obtain ⟨x, s1, h1, tg', h2, rfl, rfl⟩ := h
  obtain ⟨y, g1, rfl, e1, n1⟩ := hget_spec h1
  refine ⟨e1, n1, ?_⟩
  cases y <;> simp only [strip, tightOf] at h2 <;> try (cases h2; done)
  rename_i c e l ro st
  have O := inv.obj b _ rb g1 hρ
  cases hg : rb.ghost with
  | true =>
    obtain ⟨-, rfl, rfl⟩ := O.1 hg
    refine ⟨fun ht => ?_, fun _ hh => by cases hh⟩
    subst ht
    simp only [cond_true] at h2
    cases heq : Nat.beq e elem with
    | false => rw [heq] at h2; cases h2
    | true =>
      rw [heq, cond_true] at h2
      have := Option.some.inj h2
      simp [Nat.blt] at this
  | false =>
    obtain ⟨cs, e', fr, hw, cr⟩ := O.2 hg
    cases l with
    | false =>
      simp only [cond_false] at h2
      obtain rfl := Option.some.inj h2
      refine ⟨fun _ => ⟨rfl, fun hc => ?_⟩, fun h => by cases h⟩
      rcases hc with hc | ⟨hl, -⟩
      · exact hc
      · rw [cr.loose] at hl; cases hl
    | true =>
      simp only [cond_true] at h2
      cases heq : Nat.beq e elem with
      | false => rw [heq] at h2; cases h2
      | true =>
        rw [heq, cond_true] at h2
        have hee := Nat.eq_of_beq_eq_true heq
        subst hee
        obtain ⟨te', t1, t2, t3⟩ := cr.esz rfl
        rw [hte] at t1
        obtain rfl := Option.some.inj t1
        have hlen := cr.len
        refine ⟨fun ht => ⟨rfl, fun hc => ?_⟩, fun _ _ => ⟨cr.loose, by omega, by omega⟩⟩
        rcases hc with hc | ⟨-, -, hc, -⟩
        · exact hc
        · subst ht
          have := Option.some.inj h2
          have := Nat.le_of_ble_eq_true this
          simp only [List.length_map] at this
          rw [← t2, hes] at hc
          omega

theorem sliceSl_ok (C : CxOk P Γ) {t : TypeId} {ti : TI} {b o len cap : Nat} {sp : Option Nat} {elem : TypeId} {lo hi mx lo' hi' mx' : Option Value} {v x' : Value} (hti : Γ.ty t = some ti) (hu : ti.u = .slice elem)
    (h : sliceSl Γ ⟨b, o, sp⟩ len cap elem lo hi mx s = some (v, s')) (pre : Pre Γ ρ s w s') (hx : VR ρ (.slice (some ⟨b, o, sp⟩) len cap) x') (h1 : OV ρ lo lo') (h2 : OV ρ hi hi') (h3 : OV ρ mx mx') :
    DoesV P Γ ρ s w (Instr.sliceAt t x' lo' hi' mx') v s' := by
  obtain ⟨hur, -, -, -, -⟩ := ty_run C hti
  rw [hu] at hur
  simp only [sliceSl, have_eq, bind_eq] at h
  obtain ⟨te, hte, bd, hbd, tg, s1, htg, h⟩ := h
  obtain ⟨-, hse, -, -, -⟩ := ty_run C hte
  cases hx with
  | sl b o n c c' rb p1 p2 p3 =>
    have hcc : cap ≤ c' := by rcases p3 with rfl | ⟨_, h, _⟩; exact Nat.le_refl _; exact h
    obtain ⟨q1, q2, q3, m', q4, q5, q6⟩ := bounds_ok (P := P) (isS := true) hbd hcc h1 h2 h3
    obtain ⟨e1, n1, t1, t2⟩ := tight_ok (c' := c') hte rfl htg pre.inv p1
    have run : ∀ w, (Instr.sliceAt t (.slice (some ⟨rb.blk, rb.off + o, none⟩) len c') lo' hi' mx').run P w =
        .ok (.slice (if m' = bd.1 then some ⟨rb.blk, rb.off + o, none⟩ else some ⟨rb.blk, rb.off + o + bd.1 * te.size, none⟩) (bd.2.1 - bd.1) (m' - bd.1)) w := by
      intro w
      simp only [Instr.sliceAt, Sem.run_bind, hur, Result.andThen_ok, Instr.slice, q4, hse, Option.map_some, addr_add, Sem.run_pure]
    cases tg with
    | true =>
      obtain ⟨-, hcap⟩ := t1 rfl
      obtain rfl := hcap p3
      have hm : m' = bd.2.2 := by
        cases hmx : mx.isNone with
        | true => obtain ⟨a1, a2⟩ := q5 hmx; rw [a1, a2]
        | false => exact q6 hmx
      simp only [cond_true, pure_eq, Prod.mk.injEq] at h
      obtain ⟨rfl, rfl⟩ := h
      refine .of_run pre e1 (run w) ?_
      subst hm
      unfold sliceOf
      cases hml : Nat.beq bd.2.2 bd.1 with
      | true =>
        have := Nat.eq_of_beq_eq_true hml
        rw [cond_true, if_pos this]
        exact .sl b o _ _ _ rb p1 p2 (.inl rfl)
      | false =>
        have : bd.2.2 ≠ bd.1 := fun e => by rw [e, Nat.beq_refl] at hml; cases hml
        rw [cond_false, if_neg this, addOff_eq, Nat.add_assoc]
        exact .sl b _ _ _ _ rb p1 p2 (.inl rfl)
    | false =>
      simp only [cond_false, need_eq] at h
      obtain ⟨hmx, h⟩ := h
      obtain ⟨a1, rfl⟩ := q5 hmx
      cases hlm : Nat.beq bd.1 bd.2.2 with
      | true =>
        rw [hlm, cond_true] at h
        simp only [bind_eq, pure_eq, Prod.mk.injEq] at h
        obtain ⟨i, s2, hn, rfl, rfl⟩ := h
        obtain ⟨rfl, l1, l2, l3⟩ := hnew_spec hn
        have hle := Nat.eq_of_beq_eq_true hlm
        refine ⟨_, w, ρ.add s1.nx ⟨0, 0, 0, 0, 0, true, true⟩, run w, ?_, ?_⟩
        · rw [show bd.2.1 - bd.1 = 0 by omega]
          split <;> exact .slg _ _ _ _ ⟨0, 0, 0, 0, 0, true, true⟩ (Rho.add_self _ _ _) rfl
        · rw [n1] at l1 l2 l3 ⊢
          rw [e1] at l2
          exact Stp.ghost (by omega) pre.inv (pre.free _ (Nat.le_refl _) (by omega)) rfl l2 (by omega)
      | false =>
        rw [hlm, cond_false] at h
        simp only [pure_eq, Prod.mk.injEq] at h
        obtain ⟨rfl, rfl⟩ := h
        have hne : bd.1 ≠ bd.2.2 := fun e => by rw [e, Nat.beq_refl] at hlm; cases hlm
        refine .of_run pre e1 (run w) ?_
        rw [if_neg (by omega), addOff_eq, Nat.add_assoc]
        refine .sl b _ _ _ _ rb p1 p2 ?_
        obtain ⟨g1, g2, g3⟩ := t2 rfl p2
        rcases p3 with rfl | ⟨_, c1, c2, c3⟩
        · exact .inl (by rw [a1])
        · refine .inr ⟨g1, by omega, ?_, ?_⟩
          · rw [a1, ← c2, g2, Nat.sub_mul]; have := Nat.mul_le_mul_right te.size (show bd.1 ≤ cap by omega); omega
          · rw [← c3, g2, Nat.sub_mul]; have := Nat.mul_le_mul_right te.size (show bd.1 ≤ m' by omega); omega
  | slg b o c' a' rb p1 p2 =>
    obtain ⟨q1, q2, q3, m', q4, q5, q6⟩ := bounds_ok (P := P) (isS := true) hbd (Nat.zero_le c') h1 h2 h3
    obtain ⟨e1, n1, t1, t2⟩ := tight_ok (c' := c') hte rfl htg pre.inv p1
    cases tg with
    | true => have := (t1 rfl).1; rw [p2] at this; cases this
    | false =>
      simp only [cond_false, need_eq] at h
      obtain ⟨hmx, h⟩ := h
      obtain ⟨a1, rfl⟩ := q5 hmx
      have hlm : Nat.beq bd.1 bd.2.2 = true := by rw [show bd.1 = bd.2.2 by omega]; exact Nat.beq_refl _
      rw [hlm, cond_true] at h
      simp only [bind_eq, pure_eq, Prod.mk.injEq] at h
      obtain ⟨i, s2, hn, rfl, rfl⟩ := h
      obtain ⟨rfl, l1, l2, l3⟩ := hnew_spec hn
      refine ⟨.slice (if m' = bd.1 then some a' else some (a'.add (bd.1 * te.size))) (bd.2.1 - bd.1) (m' - bd.1), w, ρ.add s1.nx ⟨0, 0, 0, 0, 0, true, true⟩, ?_, ?_, ?_⟩
      · simp only [Instr.sliceAt, Sem.run_bind, hur, Result.andThen_ok, Instr.slice, q4, hse, Option.map_some, Sem.run_pure]
      · rw [show bd.2.1 - bd.1 = 0 by omega]
        split <;> exact .slg _ _ _ _ ⟨0, 0, 0, 0, 0, true, true⟩ (Rho.add_self _ _ _) rfl
      · rw [n1] at l1 l2 l3 ⊢
        rw [e1] at l2
        exact Stp.ghost (by omega) pre.inv (pre.free _ (Nat.le_refl _) (by omega)) rfl l2 (by omega)

theorem sliceArr_ok (C : CxOk P Γ) {b o n : Nat} {elem : TypeId} {lo hi mx lo' hi' mx' : Option Value} {v : Value} {rb : RB} {r : Sem Value}
    (h : sliceArr Γ ⟨b, o, none⟩ n elem lo hi mx s = some (v, s')) (pre : Pre Γ ρ s w s') (hρ : ρ b = some rb) (hg : rb.ghost = false) (h1 : OV ρ lo lo') (h2 : OV ρ hi hi') (h3 : OV ρ mx mx')
    (hr : r = do
      let (l, h, m) ← Instr.sliceBounds false n n lo' hi' mx'
      let size ← sizeOf elem
      pure (.slice (some (if m = l then ⟨rb.blk, rb.off + o, none⟩ else (⟨rb.blk, rb.off + o, none⟩ : Addr).add (l * size))) (h - l) (m - l))) :
    DoesV P Γ ρ s w r v s' := by
  subst hr
  simp only [sliceArr, have_eq, bind_eq, need_eq, pure_eq, Prod.mk.injEq] at h
  obtain ⟨te, hte, bd, hbd, tg, s1, htg, ht, rfl, rfl⟩ := h
  obtain ⟨-, hse, -, -, -⟩ := ty_run C hte
  obtain ⟨q1, q2, q3, m', q4, q5, q6⟩ := bounds_ok (P := P) (isS := false) hbd (Nat.le_refl n) h1 h2 h3
  obtain ⟨e1, n1, t1, t2⟩ := tight_ok (c' := n) hte rfl htg pre.inv hρ
  have hm : m' = bd.2.2 := by
    cases hmx : mx.isNone with
    | true => obtain ⟨a1, a2⟩ := q5 hmx; rw [a1, a2]
    | false => exact q6 hmx
  subst hm
  refine .of_run pre e1 (v' := .slice (some (if bd.2.2 = bd.1 then ⟨rb.blk, rb.off + o, none⟩ else ⟨rb.blk, rb.off + o + bd.1 * te.size, none⟩)) (bd.2.1 - bd.1) (bd.2.2 - bd.1)) ?_ ?_
  · simp only [Sem.run_bind, q4, Result.andThen_ok, hse, addr_add, Sem.run_pure]
  · unfold sliceOf
    cases hml : Nat.beq bd.2.2 bd.1 with
    | true =>
      have := Nat.eq_of_beq_eq_true hml
      rw [cond_true, if_pos this]
      exact .sl b o _ _ _ rb hρ hg (.inl rfl)
    | false =>
      have : bd.2.2 ≠ bd.1 := fun e => by rw [e, Nat.beq_refl] at hml; cases hml
      rw [cond_false, if_neg this, addOff_eq, Nat.add_assoc]
      exact .sl b _ _ _ _ rb hρ hg (.inl rfl)

end ops
end Go.Ideal

/-
  What an operation does in the ideal heap, it does in the world: append, copy, len, clear. Conditions: none.
-/
import Derived.Test.YtpoaiachllclhaaGreatDoorOps7
import Derived.Laws.Append
namespace Go.Ideal
open Go

section ops
variable {P : Program} {Γ : Cx} (C : CxOk P Γ) {ρ : Rho} {s s' : HS} {w : World}

theorem byteCells_eq (z : ByteArray) (n : Nat) : (((z.extract 0 n).data.map fun b => Value.int .u8 b.toNat).toList) = (byteCells z).take n := by
  have e := Lib.extract_data z 0 n
  simp only [Array.toList_map, e, List.drop_zero, Nat.sub_zero, byteCells, List.map_take]

theorem elems_ok {size n : Nat} {x x' : Value} {l : List Value} (h : elems size n x s = some (l, s')) (inv : Inv Γ ρ s.h w) (hx : VR ρ x x') :
    s'.h = s.h ∧ s'.nx = s.nx ∧ ∃ l', (Builtin.firstCells size n x').run P w = .ok l'.toArray w ∧ VRs ρ l l' := by
  unfold elems at h
  split at h
  · rename_i a m c
    obtain ⟨b, o, sp⟩ := a
    cases hx with
    | sl b o n' c0 c' rb p1 p2 p3 =>
      obtain ⟨l', a1, a2, a3, a4, a5⟩ := readCells_ok (P := P) h inv p1 p2
      exact ⟨a4, a5, l', a1, a2⟩
    | slg b o c' a' rb p1 p2 =>
      simp only [readCells, need_eq] at h
      obtain ⟨-, h⟩ := h
      obtain ⟨y, c0, h1, h2, h3, h4, h5⟩ := hread_spec h
      cases y <;> simp only [cellsIn] at h2 <;> try (cases h2; done)
      obtain rfl := Option.some.inj h2
      obtain ⟨-, -, rfl⟩ := (inv.obj _ _ rb h1 p1).1 p2
      obtain ⟨t1, t2, -⟩ := (takeAt_iff _ _ _ _).1 h3
      simp only [List.length_nil] at t2
      have hz : n * size = 0 := by omega
      rw [hz] at t1
      have hl : l = [] := List.eq_nil_of_length_eq_zero t1
      subst hl
      exact ⟨h4, h5, [], by simp only [Builtin.firstCells, hz]; rfl, VRs.nil ρ⟩
  · simp only [pure_eq, Prod.mk.injEq] at h
    obtain ⟨rfl, rfl⟩ := h
    cases hx
    exact ⟨rfl, rfl, [], rfl, VRs.nil ρ⟩
  · rename_i z
    simp only [pure_eq, Prod.mk.injEq] at h
    obtain ⟨rfl, rfl⟩ := h
    cases hx
    refine ⟨rfl, rfl, (byteCells z).take n, ?_, VRs.refl_of fun v hv => ?_⟩
    · simp only [Builtin.firstCells, Sem.run_pure, ← byteCells_eq]
    · have := List.mem_of_mem_take hv
      simp only [byteCells, List.mem_map] at this
      obtain ⟨b, -, rfl⟩ := this
      exact .int _ _
  · simp [EM.fail] at h

theorem lenV_ok {x x' : Value} {n : Nat} (h : lenV x = some n) (hx : VR ρ x x') : ∀ w, (Builtin.lenOf x').run P w = .ok n w := by
  intro w
  unfold lenV at h
  split at h <;> first | (cases h; done) | skip
  · obtain rfl := Option.some.inj h
    cases hx <;> rfl
  · obtain rfl := Option.some.inj h
    cases hx; rfl

theorem zeroCells_size (z : Array Value) (n : Nat) : (Builtin.zeroCells z n).size = n * z.size := by simp [Builtin.zeroCells]

theorem storeAtBase {b o n : Nat} {rb : RB} {vs vs' : List Value} {u : Unit} (h : writeCells (addOff ⟨b, o, none⟩ n) vs s = some (u, s')) (inv : Inv Γ ρ s.h w) (hρ : ρ b = some rb) (hg : rb.ghost = false) (hv : VRs ρ vs vs') :
    ∃ w', (storeCells ((⟨rb.blk, rb.off + o, none⟩ : Addr).add n) vs').run P w = .ok () w' ∧ Stp Γ ρ s w ρ s' w' := by
  rw [addOff_eq] at h
  rw [addr_add]
  obtain ⟨w', a1, a2⟩ := writeCells_ok (P := P) h inv hρ hg hv
  exact ⟨w', by rw [Nat.add_assoc]; exact a1, a2⟩

theorem append_in {ts : Array TypeId} {ta tb tt elem : TypeId} {y' : Value} {ti : TypeDesc} {n sz : Nat} (h0 : ts[0]? = some ta) (h1 : ts[1]? = some tb)
    (hu : ∀ w, (underlying ta).run P w = .ok (.slice elem) w) (huj : ∀ w, (underlying tb).run P w = .ok ti w) (c1 : isInt ti = false) (hse : ∀ w, (sizeOf elem).run P w = .ok sz w)
    (hlen : ∀ w, (Builtin.lenOf y').run P w = .ok n w) (b : Option Addr) (l c : Nat) (w w1 : World) (new : List Value) (hle : l + n ≤ c) (hnew : (Builtin.firstCells sz n y').run P w = .ok new.toArray w)
    (hst : match b with | some a => (storeCells (a.add (l * sz)) new).run P w = .ok () w1 | none => w1 = w) : (Builtin.append_ ts tt #[.slice b l c, y']).run P w = .ok (.slice b (l + n) c) w1 := by
  cases b with
  | none =>
    subst hst
    cases ti <;> first | (cases c1; done) | simp only [Builtin.append_, h0, h1, List.getElem?_toArray, List.getElem?_cons_zero, List.getElem?_cons_succ, Sem.run_bind, hu, Result.andThen_ok, hse, huj, Sem.run_pure, Bool.false_eq_true, if_false, hlen, if_pos hle, Bool.not_false, if_true, hnew]
  | some a =>
    simp only at hst
    cases ti <;> first | (cases c1; done) | simp only [Builtin.append_, h0, h1, List.getElem?_toArray, List.getElem?_cons_zero, List.getElem?_cons_succ, Sem.run_bind, hu, Result.andThen_ok, hse, huj, Sem.run_pure, Bool.false_eq_true, if_false, hlen, if_pos hle, Bool.not_false, if_true, hnew, hst]

set_option maxHeartbeats 1000000 in
theorem append_up {ts : Array TypeId} {ta tb tt elem : TypeId} {y' z : Value} {ti : TypeDesc} {ie : TypeInfo} {n sz bytes : Nat} (h0 : ts[0]? = some ta) (h1 : ts[1]? = some tb)
    (hu : ∀ w, (underlying ta).run P w = .ok (.slice elem) w) (huj : ∀ w, (underlying tb).run P w = .ok ti w) (c1 : isInt ti = false) (hse : ∀ w, (sizeOf elem).run P w = .ok sz w)
    (hlen : ∀ w, (Builtin.lenOf y').run P w = .ok n w) (hinfo : ∀ w, (typeInfo elem).run P w = .ok ie w) (hby : ie.bytes = bytes) (hzr : ∀ w, (zeroValue elem).run P w = .ok z w)
    (b : Option Addr) (l c : Nat) (w : World) (old new : List Value) (hle : ¬ l + n ≤ c) (hsm : l + n < 1000000) (hsb : (l + n) * (bytes + 1) < 1000000)
    (hold : (Builtin.firstCells sz l (.slice b l c)).run P { w with drawn := w.drawn + 1 } = .ok old.toArray { w with drawn := w.drawn + 1 })
    (hnew : (Builtin.firstCells sz n y').run P { w with drawn := w.drawn + 1 } = .ok new.toArray { w with drawn := w.drawn + 1 }) :
    ∃ newCap, l + n ≤ newCap ∧ (Builtin.append_ ts tt #[.slice b l c, y']).run P w = .ok (.slice (some ⟨w.heap.size, 0, none⟩) (l + n) newCap)
        { w with drawn := w.drawn + 1, heap := w.heap.push (.cells (old.toArray ++ new.toArray ++ Builtin.zeroCells z.cells (newCap - (l + n))) elem) } := by
  have hq : (Question.appendCap (l + n) c elem).forced = false := rfl
  refine ⟨(Question.appendCap (l + n) c elem).cut (w.tape w.drawn (.appendCap (l + n) c elem)), by simp [Question.cut], ?_⟩
  have hcap := nextslicecap_le (need := l + n) (old := c) (by omega)
  have e1 : ¬ (((l + n : Nat) : Int) > IntKind.i64.max ∧ (false = true ∨ ie.bytes = 0)) := by
    intro ⟨h, _⟩
    simp [IntKind.max, IntKind.signed, IntKind.bits] at h
    omega
  have e2 : ¬ (Builtin.nextslicecap (l + n) c * ie.bytes > 2 ^ 48) := by
    have h1 : Builtin.nextslicecap (l + n) c * ie.bytes ≤ 2 * (l + n) * ie.bytes := Nat.mul_le_mul_right _ hcap
    have h2 : 2 * (l + n) * ie.bytes ≤ 2 * ((l + n) * (bytes + 1)) := by
      rw [Nat.mul_assoc, hby]; exact Nat.mul_le_mul_left _ (Nat.mul_le_mul_left _ (by omega))
    omega
  simp only [Bool.false_eq_true, false_or] at e1
  cases ti <;> first | (cases c1; done) | simp only [Builtin.append_, h0, h1, List.getElem?_toArray, List.getElem?_cons_zero, List.getElem?_cons_succ, Sem.run_bind, hu, Result.andThen_ok, hse, huj, Sem.run_pure, Bool.false_eq_true, if_false, hlen, if_neg hle, Bool.not_false, if_true,
      hinfo, false_or, if_neg e1, if_neg e2, run_choose, hq, run_askRoom, hold, hnew, hzr, newRow, run_newObj]

end ops
end Go.Ideal

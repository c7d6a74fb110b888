/-
  What an operation does in the ideal heap, it does in the world: cells, new cells, fields, indexes. Conditions: none.
-/
import Derived.Test.YtpoaiachllclhaaGreatDoorOps2
namespace Go.Ideal
open Go

section ops
variable {P : Program} {Γ : Cx} {ρ : Rho} {s s' : HS} {w : World}

theorem OR.ofCells {rb : RB} {c : List Value} {e : TypeId} {l ro st : Bool} (hg : rb.ghost = false) (h : ∃ cs e' fr, w.heap[rb.blk]? = some (.cells cs e' fr) ∧ CR Γ ρ rb c e l ro st cs fr) : OR Γ ρ w rb (.cells c e l ro st) :=
  ⟨(fun hgg => by rw [hg] at hgg; cases hgg), fun _ => h⟩

theorem readCells_ok {b o n : Nat} {sp : Option Nat} {l : List Value} {rb : RB} (h : readCells ⟨b, o, sp⟩ n s = some (l, s')) (inv : Inv Γ ρ s.h w) (hρ : ρ b = some rb) (hg : rb.ghost = false) :
    ∃ l', (loadCells ⟨rb.blk, rb.off + o, none⟩ n).run P w = .ok l'.toArray w ∧ VRs ρ l l' ∧ l.length = n ∧ s'.h = s.h ∧ s'.nx = s.nx := by
  simp only [readCells, need_eq] at h
  obtain ⟨-, h⟩ := h
  obtain ⟨x, c, h1, h2, h3, h4, h5⟩ := hread_spec h
  cases x <;> simp only [cellsIn] at h2 <;> try (cases h2; done)
  rename_i c0 e l0 ro st
  obtain rfl := Option.some.inj h2
  obtain ⟨cs, e', fr, hw, cr⟩ := (inv.obj b _ rb h1 hρ).2 hg
  obtain ⟨t1, t2, t3⟩ := (takeAt_iff _ _ _ _).1 h3
  have hsz := cr.size.2; have hlen := cr.len; have hle := cr.le
  let l' := (cs.toList.drop (rb.off + o)).take n
  have hl' : l'.length = n := by simp [l']; omega
  have hget : ∀ k, k < n → l'[k]? = cs[rb.off + o + k]? := fun k hk => by
    simp only [l', List.getElem?_take, hk, if_true, List.getElem?_drop, Array.getElem?_toList]
  refine ⟨l', ?_, ⟨by rw [t1, hl'], fun j v v' hv hv' => ?_⟩, t1, h4, h5⟩
  · rw [← hl']
    refine run_loadCells fun k v hk => ?_
    have hkn : k < n := by rw [← hl']; exact (List.getElem?_eq_some_iff.1 hk).1
    rw [cell_at hw, ← hget k hkn]; exact hk
  · have hj : j < n := by rw [← t1]; exact (List.getElem?_eq_some_iff.1 hv).1
    rw [hget j hj] at hv'
    obtain ⟨v2, a1, a2⟩ := cr.cells (o + j) v (by rw [t3 j hj]; exact hv)
    rw [show rb.off + (o + j) = rb.off + o + j by omega, hv'] at a1
    obtain rfl := Option.some.inj a1
    exact a2

theorem cellOk_one {v v' : Value} (h : cellOk v = true) (hv : VR ρ v v') : oneCell v' = true := by
  cases hv with
  | any v h1 h2 => cases v' <;> first | rfl | exact absurd rfl (h1 _) | exact absurd rfl (h2 _)
  | name i h1 h2 => cases hx : ρ.σ i <;> first | rfl | exact absurd hx (h1 _) | exact absurd hx (h2 _)
  | agg => cases h
  | tup => cases h
  | _ => rfl

theorem writeCells_ok {b o : Nat} {sp : Option Nat} {vs vs' : List Value} {rb : RB} {u : Unit} (h : writeCells ⟨b, o, sp⟩ vs s = some (u, s')) (inv : Inv Γ ρ s.h w) (hρ : ρ b = some rb) (hg : rb.ghost = false) (hvs : VRs ρ vs vs') :
    ∃ w', (storeCells ⟨rb.blk, rb.off + o, none⟩ vs').run P w = .ok () w' ∧ Stp Γ ρ s w ρ s' w' := by
  simp only [writeCells, need_eq] at h
  obtain ⟨-, h⟩ := h
  obtain ⟨c, e, l, st, c', h1, h2, h3, h4, h5⟩ := hwrite_spec h
  obtain ⟨cs, e', fr, hw, cr⟩ := (inv.obj b _ rb h1 hρ).2 hg
  obtain ⟨p1, p2, p3⟩ := (putAt_iff _ _ _ _).1 h2
  have hsz := cr.size.1 rfl; have hlen := cr.len; have hle := cr.le; have hvl := hvs.1
  obtain ⟨cs', e1, e2, e3⟩ := run_storeCells (P := P) vs' (rb.off + o) 0 w cs (fun v' hv' => by
      obtain ⟨j, hj⟩ := List.mem_iff_getElem?.1 hv'
      have hjl : j < vs.length := by rw [hvl]; exact (List.getElem?_eq_some_iff.1 hj).1
      have hmem : vs[j] ∈ vs := List.getElem_mem hjl
      exact cellOk_one (List.all_eq_true.1 h3 _ hmem) (hvs.2 j _ _ (List.getElem?_eq_getElem hjl) hj)) hw (by omega)
    (fun k hk hk' => cr.free rfl k (by omega) (by omega))
  refine ⟨_, e1, Stp.put (x' := .cells c' e l false st) (o := .cells cs' e' fr) (inv.lim b rb hρ) inv h1 rfl hρ hg h4 (OR.ofCells hg ⟨cs', e', fr, ?_, ?_⟩)⟩
  · have hb : rb.blk < w.heap.size := (Array.getElem?_eq_some_iff.1 hw).1
    rw [heap_set hb, if_pos rfl]
  · refine ⟨.eq (by rw [e2]; exact hsz), by rw [p2]; exact hlen, hle, cr.loose, cr.tight, cr.esz, fun j v hv => ?_, fun hr k hk hk' => cr.free hr k hk (by rw [← e2]; exact hk'), cr.plain⟩
    rw [p3] at hv
    rw [e3]
    by_cases hj : o ≤ j ∧ j < o + vs.length
    · rw [if_pos hj] at hv
      rw [if_pos (by omega)]
      obtain ⟨v', a1, a2⟩ := hvs.get hv
      exact ⟨v', by rw [show rb.off + j - (rb.off + o + 0) = j - o by omega]; exact a1, a2⟩
    · rw [if_neg hj] at hv
      rw [if_neg (by omega)]
      exact cr.cells j v hv

theorem newCells_ok {e : TypeId} {c : List Value} {loose st : Bool} {a : Addr} {o : Obj} {arr : Array Value} {e' : TypeId} {fr : Nat × Nat} {c' : List Value} {esz : Nat} (h : newCells e c loose st s = some (a, s')) (pre : Pre Γ ρ s w s')
    (ho : o = .cells arr e' fr) (hc : VRs ρ c c') (harr : ∀ (j : Nat) v, c'[j]? = some v → arr[j]? = some v) (hsz : c.length ≤ arr.size) (ht : loose = false → arr.size = c.length)
    (hes : loose = true → ∃ te, Γ.ty e = some te ∧ te.size = esz ∧ 0 < esz) (hfr : ∀ k, k < arr.size → ¬ (fr.1 ≤ k ∧ k < fr.2)) (hst : st = false → ∀ k, ¬ (fr.1 ≤ k ∧ k < fr.2)) :
    a = ⟨s.nx, 0, none⟩ ∧ s'.nx = s.nx + 1 ∧ Stp Γ ρ s w (ρ.add s.nx ⟨w.heap.size, 0, c.length, arr.size, esz, loose, false⟩) s' { w with heap := w.heap.push o } := by
  simp only [newCells, need_eq, bind_eq, pure_eq, Prod.mk.injEq] at h
  obtain ⟨-, i, s1, h1, rfl, rfl⟩ := h
  obtain ⟨rfl, hlt, hh, hn⟩ := hnew_spec h1
  refine ⟨rfl, hn, Stp.new (by omega) pre.inv (pre.free s.nx (Nat.le_refl _) (by omega)) rfl hh (by omega) (OR.ofCells rfl ⟨arr, e', fr, ?_, ?_⟩)⟩
  · subst ho
    show (w.heap.push _)[w.heap.size]? = _
    simp
  · have hle := Rho.le_add (rb := ⟨w.heap.size, 0, c.length, arr.size, esz, loose, false⟩) (pre.free s.nx (Nat.le_refl _) (by omega))
    refine ⟨.eq (by simp), rfl, hsz, rfl, ht, fun hl => ?_, fun j v hv => ?_, fun _ k _ hk => hfr k hk, fun _ hs k => hst hs k⟩
    · obtain ⟨te, a1, a2, a3⟩ := hes hl
      exact ⟨te, a1, a2, a3⟩
    · obtain ⟨v', a1, a2⟩ := hc.get hv
      refine ⟨v', ?_, a2.mono hle⟩
      show arr[0 + j]? = some v'
      rw [Nat.zero_add]; exact harr j v' a1

theorem VR.cells {v v' : Value} (h : VR ρ v v') : VRs ρ (cellsOf v) v'.cells.toList := by
  cases h with
  | agg l l' h1 h2 => exact ⟨by simpa [cellsOf, Value.cells] using h1, by simpa [cellsOf, Value.cells] using h2⟩
  | bool b => exact VRs.cons (.bool b) (VRs.nil _)
  | int k n => exact VRs.cons (.int k n) (VRs.nil _)
  | str s => exact VRs.cons (.str s) (VRs.nil _)
  | ptr0 => exact VRs.cons .ptr0 (VRs.nil _)
  | ptr b o rb h1 h2 => exact VRs.cons (.ptr b o rb h1 h2) (VRs.nil _)
  | sl0 n c => exact VRs.cons (.sl0 n c) (VRs.nil _)
  | sl b o n c c' rb h1 h2 h3 => exact VRs.cons (.sl b o n c c' rb h1 h2 h3) (VRs.nil _)
  | slg b o c' a' rb h1 h2 => exact VRs.cons (.slg b o c' a' rb h1 h2) (VRs.nil _)
  | map0 => exact VRs.cons .map0 (VRs.nil _)
  | map r rb h1 => exact VRs.cons (.map r rb h1) (VRs.nil _)
  | chan r rb h1 => exact VRs.cons (.chan r rb h1) (VRs.nil _)
  | nilF => exact VRs.cons .nilF (VRs.nil _)
  | nilI => exact VRs.cons .nilI (VRs.nil _)
  | sym lo hi z h1 h2 h3 => exact VRs.cons (.sym lo hi z h1 h2 h3) (VRs.nil _)
  | sym8 lo hi z h1 h2 h3 => exact VRs.cons (.sym8 lo hi z h1 h2 h3) (VRs.nil _)
  | opq n a c => exact VRs.cons (.opq n a c) (VRs.nil _)
  | any v h1 h2 =>
    have e : v'.cells = #[v'] := by cases v' <;> first | rfl | exact absurd rfl (h1 _)
    rw [e]
    exact VRs.cons (.any _ h1 h2) (VRs.nil _)
  | name i h1 h2 =>
    have e : (ρ.σ i).cells = #[ρ.σ i] := by
      cases hx : ρ.σ i <;> first | rfl | exact absurd hx (h1 _)
    rw [e]
    exact VRs.cons (.name i h1 h2) (VRs.nil _)
  | fn f l l' m m' h1 h2 h3 h4 => exact VRs.cons (.fn f l l' m m' h1 h2 h3 h4) (VRs.nil _)
  | yld l rb h1 => exact VRs.cons (.yld l rb h1) (VRs.nil _)
  | tup l l' h1 h2 => exact VRs.cons (.tup l l' h1 h2) (VRs.nil _)

theorem loadV_ok (C : CxOk P Γ) {t : TypeId} {b o : Nat} {sp : Option Nat} {v : Value} {rb : RB} (h : loadV Γ t ⟨b, o, sp⟩ s = some (v, s')) (inv : Inv Γ ρ s.h w) (hρ : ρ b = some rb) (hg : rb.ghost = false) :
    ∃ v', (loadVar t ⟨rb.blk, rb.off + o, none⟩).run P w = .ok v' w ∧ VR ρ v v' ∧ s'.h = s.h ∧ s'.nx = s.nx := by
  simp only [loadV, have_eq] at h
  obtain ⟨ti, hti, h⟩ := h
  obtain ⟨hu, hs, ha, -, -⟩ := ty_run C hti
  cases hagg : ti.agg with
  | true =>
    simp only [hagg, cond_true, bind_eq, pure_eq, Prod.mk.injEq] at h
    obtain ⟨l, s1, h1, rfl, rfl⟩ := h
    obtain ⟨l', a1, a2, a3, a4, a5⟩ := readCells_ok (P := P) h1 inv hρ hg
    refine ⟨.agg l'.toArray, ?_, VR.agg' a2, a4, a5⟩
    simp only [loadVar, Sem.run_bind, ha, hagg, Result.andThen_ok, if_true, hs, a1, Sem.run_pure]
  | false =>
    simp only [hagg, cond_false, bind_eq, lift_eq, Prod.mk.injEq] at h
    obtain ⟨l, s1, h1, v0, h2, rfl, rfl⟩ := h
    obtain ⟨l', a1, a2, a3, a4, a5⟩ := readCells_ok (P := P) h1 inv hρ hg
    cases l with
    | nil => cases h2
    | cons x l =>
      cases l with
      | cons y l => cases h2
      | nil =>
        obtain rfl := Option.some.inj h2
        obtain ⟨v', r, rfl, hv, hr⟩ := a2.ex
        obtain rfl := hr.nil_ex
        refine ⟨v', ?_, hv, a4, a5⟩
        have hl : (loadCells ⟨rb.blk, rb.off + o, none⟩ 1).run P w = .ok #[v'] w := a1
        simp only [loadCells, loadCellsFrom, Sem.run_bind, addr_add, Nat.add_zero] at hl
        simp only [loadVar, Sem.run_bind, ha, hagg, Result.andThen_ok, Bool.false_eq_true, if_false]
        cases hx : (load ⟨rb.blk, rb.off + o, none⟩).run P w with
        | halt q w2 => rw [hx] at hl; cases hl
        | ok x w2 =>
          rw [hx] at hl
          simp at hl
          rw [hl.1, hl.2]

theorem storeV_ok (C : CxOk P Γ) {t : TypeId} {b o : Nat} {sp : Option Nat} {v v' : Value} {rb : RB} {u : Unit} (h : storeV Γ t ⟨b, o, sp⟩ v s = some (u, s')) (inv : Inv Γ ρ s.h w) (hρ : ρ b = some rb) (hg : rb.ghost = false) (hv : VR ρ v v') :
    ∃ w', (storeVar t ⟨rb.blk, rb.off + o, none⟩ v').run P w = .ok () w' ∧ Stp Γ ρ s w ρ s' w' := by
  simp only [storeV, have_eq, need_eq] at h
  obtain ⟨ti, hti, hl, h⟩ := h
  obtain ⟨hu, hs, ha, -, -⟩ := ty_run C hti
  obtain ⟨w', a1, a2⟩ := writeCells_ok (P := P) h inv hρ hg hv.cells
  refine ⟨w', ?_, a2⟩
  have hsz : v'.cells.size = ti.size := by
    have := hv.cells.1
    rw [Nat.eq_of_beq_eq_true hl] at this
    simpa using this.symm
  simp only [storeVar, Sem.run_bind, hs, Result.andThen_ok, hsz, ne_eq, not_true_eq_false, if_false]
  exact a1

end ops
end Go.Ideal

/-
  Put and drain of run's channel, as the evaluator has them. Conditions: none.
-/
import Derived.Test.YtpoaiachllclhaaGreatDoorFeedPut
import Derived.Test.YtpoaiachllclhaaGreatDoorLives
namespace Go.Proofs.YtpoaiachllclhaaGreatDoor
open Go Go.RowKit Go.Ideal

theorem strip_chan {x : IObj} {cap : Nat} {buf : List Value} (h : strip x = .chan cap buf) : x = .chan cap buf := by
  cases x <;> first | exact h | cases h

theorem five_of {l : List Value} (h : l.length = 5) : ∃ x0 x1 x2 x3 x4, l = [x0, x1, x2, x3, x4] := by
  match l, h with
  | [x0, x1, x2, x3, x4], _ => exact ⟨x0, x1, x2, x3, x4, rfl⟩

theorem flat_list {ρ : Rho} {l l' : List Value} (hf : l.all flat = true) (h : VRs ρ l l') : l' = l := by
  apply List.ext_getElem? 
  intro j
  cases hj : l[j]? with
  | none => rw [List.getElem?_eq_none_iff] at hj ⊢; rw [← h.1]; exact hj
  | some v =>
    obtain ⟨v', h1, h2⟩ := h.get hj
    rw [h1, flat_same (List.all_eq_true.1 hf v (List.mem_of_getElem? hj)) h2]

theorem flat_one {v : Value} (h : flat v = true) : v.oneCell' = true := by
  unfold flat at h
  split at h <;> first | rfl | cases h

theorem flat_cell {v : Value} (h : flat v = true) : cellOk v = true := by
  unfold flat at h
  split at h <;> first | rfl | cases h

variable {Γ : Cx}

set_option maxHeartbeats 1000000 in
set_option maxRecDepth 1000000 in
theorem putExt : ExtAt Tryz.prog Γ 17 (.put 5) := by
  intro zs zs' v s s' ρ w hv wf pre ha F hF
  simp only [extV] at hv
  split at hv
  · rename_i c l
    simp only [putV, need_eq, bind_eq, Bool.and_eq_true] at hv
    obtain ⟨⟨hlen, hfl⟩, o, s1, hg, hv⟩ := hv
    obtain ⟨x, hgx, hox, hh, hn⟩ := hget_spec hg
    split at hv
    · rename_i cap buf
      simp only [need_eq, bind_eq, pure_eq, Prod.mk.injEq] at hv
      obtain ⟨hroom, u, s2, hs, rfl, rfl⟩ := hv
      obtain ⟨x', r', rfl, hx, hr⟩ := ha.ex
      obtain ⟨y', r', rfl, hy, hr⟩ := hr.ex
      obtain rfl := hr.nil_ex
      have hz := strip_chan hox.symm
      subst hz
      obtain ⟨z, d1, d2, d3, d4, d5⟩ := hset_spec hs
      rw [hh] at d4
      cases hx with
      | chan _ rb h1 =>
        obtain ⟨⟨buf', sn, rn, e1, e2⟩, hgh⟩ := pre.inv.obj c _ rb hgx h1
        obtain ⟨l', rfl, hl⟩ := VR.agg_inv (l := l.toList) hy
        obtain rfl := flat_list hfl hl
        obtain ⟨x0, x1, x2, x3, x4, hfive⟩ := five_of (Nat.eq_of_beq_eq_true hlen)
        rw [hfive] at hfl ⊢
        rw [hfive] at d4
        have hr : buf'.size < cap := by
          have := blt_true hroom
          rw [e2.1] at this
          simpa using this
        rw [enters Tryz.func17 (by kernel_rfl) (by kernel_rfl)]
        show CallsIn F 0 Tryz.prog 17 #[.chan (some rb.blk), .agg #[x0, x1, x2, x3, x4]] w (Res Γ ρ s w _ _)
        refine hF.calls (CallsIn.mono (callsIn_wide.2 (put_walk w rb.blk cap sn rn buf' e1 hr x0 x1 x2 x3 x4)) ?_)
        rintro en w' ⟨rfl, o, rfl⟩
        have st1 : Stp Γ ρ s w ρ s (w.alloc o) := Stp.more pre.inv o
        have hb : rb.blk < w.heap.size := (Array.getElem?_eq_some_iff.1 e1).1
        have st2 : Stp Γ ρ s (w.alloc o) ρ s' ((w.alloc o).setChan rb.blk cap (buf'.push (.agg #[x0, x1, x2, x3, x4])) false (sn + 1) rn false) := by
          refine Stp.put (x' := .chan cap (buf ++ [.agg [x0, x1, x2, x3, x4].toArray])) (st1.inv.lim _ _ h1) st1.inv hgx rfl h1 hgh d4 ?_
          refine ⟨⟨buf'.push (.agg #[x0, x1, x2, x3, x4]), sn + 1, rn, ?_, ?_⟩, hgh⟩
          · exact heap_setChan' w o rb.blk cap _ (sn + 1) rn hb
          · rw [Array.toList_push]
            exact e2.append (VRs.cons (VR.agg' (VRs.refl_of fun v hv => flat_VR ρ (List.all_eq_true.1 hfl v hv))) (VRs.nil _))
        exact ⟨_, ρ, rfl, .bool _, st1.trans st2 (Nat.le_refl _) (by omega)⟩
    · simp [EM.fail] at hv
  · simp [EM.fail] at hv

set_option maxHeartbeats 1000000 in
set_option maxRecDepth 1000000 in
theorem drainExt (hty : ∃ te, Γ.ty 56 = some te ∧ te.size = 5) : ExtAt Tryz.prog Γ 18 (.drain 5 56) := by
  intro zs zs' v s s' ρ w hv wf pre ha F hF
  simp only [extV] at hv
  split at hv
  · rename_i c
    simp only [drainV, bind_eq] at hv
    obtain ⟨o, s1, hg, hv⟩ := hv
    obtain ⟨x, hgx, hox, hh, hn⟩ := hget_spec hg
    split at hv
    · rename_i cap l
      simp only [need_eq, bind_eq, pure_eq, Prod.mk.injEq, Bool.and_eq_true] at hv
      obtain ⟨⟨hlen, hfl⟩, u, s2, hs, a, s3, hnc, rfl, rfl⟩ := hv
      obtain ⟨x', r', rfl, hx, hr⟩ := ha.ex
      obtain rfl := hr.nil_ex
      have hz := strip_chan hox.symm
      subst hz
      obtain ⟨z, d1, d2, d3, d4, d5⟩ := hset_spec hs
      rw [hh] at d4
      simp only [newCells, need_eq, bind_eq, pure_eq, Prod.mk.injEq] at hnc
      obtain ⟨-, i, s4, hnew, rfl, rfl⟩ := hnc
      obtain ⟨rfl, q1, q2, q3⟩ := hnew_spec hnew
      cases hx with
      | chan _ rb h1 =>
        obtain ⟨⟨buf', sn, rn, e1, e2⟩, hgh⟩ := pre.inv.obj c _ rb hgx h1
        obtain ⟨y', r'', hb', hy, hr2⟩ := e2.ex
        obtain rfl := hr2.nil_ex
        obtain ⟨l', rfl, hl⟩ := VR.agg_inv (l := l.toList) hy
        obtain rfl := flat_list hfl hl
        obtain ⟨x0, x1, x2, x3, x4, hfive⟩ := five_of (Nat.eq_of_beq_eq_true hlen)
        rw [hfive] at hfl hb' q2
        have hbuf : buf' = #[.agg #[x0, x1, x2, x3, x4]] := by
          apply Array.ext'
          exact hb'
        subst hbuf
        have hone : ∀ v ∈ [x0, x1, x2, x3, x4], v.oneCell' = true := fun v hv => flat_one (List.all_eq_true.1 hfl v hv)
        rw [enters Tryz.func18 (by kernel_rfl) (by kernel_rfl)]
        show CallsIn F 0 Tryz.prog 18 #[.chan (some rb.blk)] w (Res Γ ρ s w _ _)
        refine hF.calls (CallsIn.mono (callsIn_wide.2 (drain_walk w rb.blk cap sn rn x0 x1 x2 x3 x4 e1 (hone _ (by simp)) (hone _ (by simp)) (hone _ (by simp)) (hone _ (by simp)) (hone _ (by simp)))) ?_)
        rintro en w' ⟨k, o1, o2, hk, rfl, rfl⟩
        have hb : rb.blk < w.heap.size := (Array.getElem?_eq_some_iff.1 e1).1
        have st1 : Stp Γ ρ s w ρ s2 (w.setChan rb.blk cap #[] false sn (rn + 1) false) := by
          refine Stp.put (x' := .chan cap []) (pre.inv.lim _ _ h1) pre.inv hgx rfl h1 hgh d4 ?_
          exact ⟨⟨#[], sn, rn + 1, Go.Conc.heap_setChan _ _ _ _ _ _ _ _ hb, VRs.nil _⟩, hgh⟩
        have st2 := Stp.more st1.inv o1
        have st3 := Stp.more st2.inv o2
        have st4 := Stp.drew st3.inv (w.drawn + 1)
        have hs1 : (w.setChan rb.blk cap #[] false sn (rn + 1) false).heap.size = w.heap.size := Go.Conc.size_setChan _ _ _ _ _ _ _ _
        obtain ⟨te, ht1, ht2⟩ := hty
        have hzs : (#[x0, x1, x2, x3, x4] ++ Builtin.zeroCells zeroOut.cells (k - 1)).size = k * 5 := by
          rw [Array.size_append, size_zeroCells]
          show 5 + (k - 1) * 5 = k * 5
          omega
        have hcells : ∀ (j : Nat) (v : Value), [x0, x1, x2, x3, x4][j]? = some v → ∃ v', (#[x0, x1, x2, x3, x4] ++ Builtin.zeroCells zeroOut.cells (k - 1))[0 + j]? = some v' ∧ VR (ρ.add s2.nx ⟨w.heap.size + 2, 0, 5, k * 5, 5, true, false⟩) v v' := fun j v hj => by
          have hlt : j < 5 := (List.getElem?_eq_some_iff.1 hj).1
          refine ⟨v, ?_, flat_VR _ (List.all_eq_true.1 hfl v (List.mem_of_getElem? hj))⟩
          rw [Nat.zero_add, Array.getElem?_append_left (by simpa using hlt)]
          simpa using hj
        have hget5 : (((w.setChan rb.blk cap #[] false sn (rn + 1) false).heap.push o1).push o2 |>.push (.cells (#[x0, x1, x2, x3, x4] ++ Builtin.zeroCells zeroOut.cells (k - 1)) 56 (0, 0)))[w.heap.size + 2]? = some (.cells (#[x0, x1, x2, x3, x4] ++ Builtin.zeroCells zeroOut.cells (k - 1)) 56 (0, 0)) := by
          rw [← hs1]
          have : (w.setChan rb.blk cap #[] false sn (rn + 1) false).heap.size + 2 = (((w.setChan rb.blk cap #[] false sn (rn + 1) false).heap.push o1).push o2).size := by simp
          rw [this, Array.getElem?_push, if_pos rfl]
        have st5 := Stp.new (s' := s') (x := .cells [x0, x1, x2, x3, x4] 56 true false false) (rb := ⟨w.heap.size + 2, 0, 5, k * 5, 5, true, false⟩) (o := .cells (#[x0, x1, x2, x3, x4] ++ Builtin.zeroCells zeroOut.cells (k - 1)) 56 (0, 0))
          (by omega) st4.inv (pre.free _ (by omega) (by omega)) (by simp [hs1]) q2 (by omega)
          ⟨(fun h => by cases h), fun _ => ⟨#[x0, x1, x2, x3, x4] ++ Builtin.zeroCells zeroOut.cells (k - 1), 56, (0, 0), hget5, ⟨.eq (by rw [hzs, Nat.zero_add]), rfl, by show 5 ≤ k * 5; omega, rfl, (fun h => by cases h), fun _ => ⟨te, ht1, ht2, (by omega : 0 < 5)⟩, hcells, fun _ o _ _ h => by omega, fun _ _ o h => by omega⟩⟩⟩
        refine ⟨.slice (some ⟨w.heap.size + 2, 0 + 0, none⟩) 1 k, ρ.add s2.nx ⟨w.heap.size + 2, 0, 5, k * 5, 5, true, false⟩, rfl, .sl _ 0 1 1 k ⟨w.heap.size + 2, 0, 5, k * 5, 5, true, false⟩ (Rho.add_self _ _ _) rfl (.inr ⟨rfl, hk, rfl, by show 0 + k * 5 = k * 5; omega⟩), ?_⟩
        exact (((st1.trans st2 (by omega) (Nat.le_refl _)).trans st3 (by omega) (Nat.le_refl _)).trans st4 (by omega) (Nat.le_refl _)).trans st5 (by omega) (by omega)
    · simp [EM.fail] at hv
  · simp [EM.fail] at hv

end Go.Proofs.YtpoaiachllclhaaGreatDoor

/-
  What an operation does in the ideal heap, it does in the world: append. Conditions: none.
-/
import Derived.Test.YtpoaiachllclhaaGreatDoorOps8
namespace Go.Ideal
open Go

section ops
variable {P : Program} {Γ : Cx} {ρ : Rho} {s s' : HS} {w : World}

set_option maxHeartbeats 1000000 in
theorem appendV_ok (C : CxOk P Γ) {ts : Array TypeId} {ta tb tt : TypeId} {x x' y y' v : Value} (h : appendV Γ ta tb x y s = some (v, s')) (h0 : ts[0]? = some ta) (h1 : ts[1]? = some tb) (pre : Pre Γ ρ s w s') (hx : VR ρ x x') (hy : VR ρ y y') :
    DoesV P Γ ρ s w (Builtin.append_ ts tt #[x', y']) v s' := by
  simp only [appendV, have_eq, need_eq] at h
  obtain ⟨ti, hti, tj, htj, elem, hel, te, hte, n, hn, p, hp, hc, h⟩ := h
  have hu0 := elemTy_eq hel
  obtain ⟨hu, -, -, -, -⟩ := ty_run C hti
  rw [hu0] at hu
  obtain ⟨huj, -, -, -, -⟩ := ty_run C htj
  obtain ⟨-, hse, -, ⟨ie, hie, hby, hsz⟩, z, hzr, hzc, hzo⟩ := ty_run C hte
  have hinfo : ∀ w, (typeInfo elem).run P w = .ok ie w := fun w => by simp [typeInfo, hie]
  simp only [Bool.and_eq_true, Bool.not_eq_true'] at hc
  obtain ⟨⟨c1, c2⟩, c3⟩ := hc
  have hpos : 0 < te.size := by
    rcases Nat.eq_zero_or_pos te.size with e | e
    · rw [e] at c3; cases c3
    · exact e
  have hsmall : (p.2.1 + n) * (te.bytes + 1) < 1000000 := ble_false c2
  have hlen := lenV_ok (P := P) hn hy
  obtain ⟨pb, pl, pc⟩ := p
  simp only at h hsmall
  have hneed : pl + n < 1000000 := by
    have : (pl + n) * 1 ≤ (pl + n) * (te.bytes + 1) := Nat.mul_le_mul_left _ (by omega)
    omega
  have runIn := fun b l c w w1 new hle hnew hst => append_in (P := P) (tt := tt) (ti := tj.u) (y' := y') h0 h1 hu huj c1 hse hlen b l c w w1 new hle hnew hst
  have runUp := fun b l c w old new hle hsm hsb hold hnew => append_up (P := P) (tt := tt) (ti := tj.u) (y' := y') h0 h1 hu huj c1 hse hlen hinfo hby hzr b l c w old new hle hsm hsb hold hnew
  -- the slice's own two parts
  have hpb : x = .slice pb pl pc := by
    cases x <;> simp only [sliceParts] at hp <;> try (cases hp; done)
    have := Option.some.inj hp
    simp only [Prod.mk.injEq] at this
    obtain ⟨rfl, rfl, rfl⟩ := this
    rfl
  subst hpb
  cases hfit : Nat.ble (Nat.add pl n) pc with
  | true =>
    have hle : pl + n ≤ pc := Nat.le_of_ble_eq_true hfit
    rw [hfit, cond_true] at h
    simp only [bind_eq] at h
    obtain ⟨new, s1, hE, u, s2, hW, h⟩ := h
    rw [force_eq, pure_eq, Prod.mk.injEq] at h
    obtain ⟨rfl, rfl⟩ := h
    obtain ⟨e1, n1, new', r1, v1⟩ := elems_ok (P := P) hE pre.inv hy
    cases pb with
    | none =>
      simp only [writeBase, pure_eq, Prod.mk.injEq] at hW
      obtain ⟨-, rfl⟩ := hW
      cases hx
      exact .of_run pre e1 (runIn none pl pc w w new' hle r1 rfl) (.sl0 _ _)
    | some a =>
      obtain ⟨b, o, sp⟩ := a
      simp only [writeBase] at hW
      cases hx with
      | sl b o n' c0 c' rb p1 p2 p3 =>
        have hcc : pl + n ≤ c' := by rcases p3 with rfl | ⟨_, hh, _⟩ <;> omega
        have inv1 : Inv Γ ρ s1.h w := by rw [e1]; exact pre.inv
        obtain ⟨w1, q1, q2⟩ := storeAtBase (P := P) hW inv1 p1 p2 v1
        refine ⟨_, w1, ρ, runIn _ pl c' w w1 new' hcc r1 q1, .sl b o _ _ _ rb p1 p2 p3, ?_⟩
        exact ⟨q2.ext, fun i r hi => .inl (by rcases q2.dom i r hi with h | ⟨h, h'⟩; exact h; exact hi), q2.inv, q2.os, q2.tape, q2.out, q2.size, by rw [← e1]; exact q2.own, by rw [← e1]; exact q2.frame, by rw [← e1]; exact q2.ownL⟩
      | slg b o c' a' rb p1 p2 =>
        simp only [writeCells, need_eq] at hW
        obtain ⟨-, hW⟩ := hW
        obtain ⟨c, e, l, st, c2, g1, -⟩ := hwrite_spec hW
        rw [e1] at g1
        have : (addOff ⟨b, o, none⟩ (Nat.mul 0 te.size)).block = b := by rw [addOff_eq]
        rw [this] at g1
        obtain ⟨hr, -⟩ := (pre.inv.obj b _ rb g1 p1).1 p2
        cases hr
  | false =>
    have hle : ¬ pl + n ≤ pc := by have := ble_false hfit; show ¬ Nat.add pl n ≤ pc; omega
    rw [hfit, cond_false] at h
    simp only [bind_eq, need_eq] at h
    obtain ⟨old, s1, hO, new, s2, hN, hlen2, u, s3, hG, a, s4, hB, h⟩ := h
    rw [force_eq, pure_eq, Prod.mk.injEq] at h
    obtain ⟨rfl, rfl⟩ := h
    have hl : (old ++ new).length = (pl + n) * te.size := Nat.eq_of_beq_eq_true hlen2
    have invD : Inv Γ ρ s.h { w with drawn := w.drawn + 1 } := (Stp.drew pre.inv (w.drawn + 1)).inv
    -- both are read, whatever the world's draws
    obtain ⟨e1, n1, oldD, ro, vo⟩ := elems_ok (P := P) hO invD hx
    have invD1 : Inv Γ ρ s1.h { w with drawn := w.drawn + 1 } := by rw [e1]; exact invD
    obtain ⟨e2, n2, newD, rn, vn⟩ := elems_ok (P := P) hN invD1 hy
    obtain ⟨-, -, newW, rnw, vnw⟩ := elems_ok (P := P) (w := w) hN (by rw [e1]; exact pre.inv) hy
    obtain ⟨-, -, -, hzcells⟩ := zero_VRs (ρ := ρ) hzo hzc
    obtain ⟨-, hzlen, -, -⟩ := zero_VRs (ρ := ρ) hzo hzc
    have grow : ∀ (b' : Option Addr) (c' : Nat), x' = .slice b' pl c' → ¬ pl + n ≤ c' → s3.nx = s.nx → Stp Γ ρ s w ρ s3 w →
        DoesV P Γ ρ s w (Builtin.append_ ts tt #[x', y']) (.slice (some a) (Nat.add pl n) (Nat.add pl n)) s' := by
      intro b' c' hx' hle' hn3 st3
      subst hx'
      obtain ⟨newCap, k1, k2⟩ := runUp b' pl c' w oldD newD hle' hneed hsmall ro rn
      have stD : Stp Γ ρ s3 w ρ s3 { w with drawn := w.drawn + 1 } := Stp.drew st3.inv _
      have preN : Pre Γ ρ s3 { w with drawn := w.drawn + 1 } s' := ⟨stD.inv, fun i hi hi' => pre.free i (by omega) hi', (pre.fix.step st3).step stD⟩
      have hol := vo.1; have hnl := vn.1
      rw [List.length_append] at hl
      have hsize : (oldD.toArray ++ newD.toArray ++ Builtin.zeroCells z.cells (newCap - (pl + n))).size = newCap * te.size := by
        simp only [Array.size_append, List.size_toArray, zeroCells_size, hzcells, hzlen]
        have : newCap * te.size = (pl + n) * te.size + (newCap - (pl + n)) * te.size := by rw [← Nat.add_mul]; congr 1; omega
        omega
      obtain ⟨ha, hn', stN⟩ := newCells_ok (arr := oldD.toArray ++ newD.toArray ++ Builtin.zeroCells z.cells (newCap - (pl + n))) (c' := oldD ++ newD) (esz := te.size) (fr := (0, 0)) hB preN rfl (vo.append vn) (fun j v hj => by
          have hjl : j < (oldD ++ newD).length := (List.getElem?_eq_some_iff.1 hj).1
          rw [List.length_append] at hjl
          have e9 : oldD.toArray ++ newD.toArray = (oldD ++ newD).toArray := by simp
          rw [e9, Array.getElem?_append, if_pos (by rw [List.size_toArray, List.length_append]; exact hjl), List.getElem?_toArray]; exact hj)
        (by rw [hsize, List.length_append, hl]; exact Nat.mul_le_mul_right _ k1) (fun h => by cases h) (fun _ => ⟨te, hte, rfl, hpos⟩) (fun k _ => by simp) (fun _ k => by simp)
      refine ⟨_, _, _, k2, ?_, st3.trans (stD.trans stN (Nat.le_refl _) (by omega)) (by omega) (by omega)⟩
      rw [ha]
      have := VR.sl (ρ := ρ.add s3.nx ⟨w.heap.size, 0, (old ++ new).length, (oldD.toArray ++ newD.toArray ++ Builtin.zeroCells z.cells (newCap - (pl + n))).size, te.size, true, false⟩) s3.nx 0 (pl + n) (pl + n) newCap _ (Rho.add_self _ _ _) rfl
        (.inr ⟨rfl, k1, by simp only [List.length_append]; omega, by simp only [hsize]; omega⟩)
      simpa using this
    have hs12 : s2.h = s.h ∧ s2.nx = s.nx := ⟨by rw [e2, e1], by rw [n2, n1]⟩
    cases pb with
    | none =>
      simp only [giveUp, pure_eq, Prod.mk.injEq] at hG
      obtain ⟨-, rfl⟩ := hG
      cases hx
      exact grow none pc rfl hle hs12.2 (Stp.same pre.inv hs12.1)
    | some ad =>
      obtain ⟨b, o, sp⟩ := ad
      simp only [giveUp, bind_eq, have_eq] at hG
      obtain ⟨ob, s5, hg, tg, htg, hG⟩ := hG
      obtain ⟨yo, g1, rfl, e5, n5⟩ := hget_spec hg
      have htight : tight ⟨b, o, sp⟩ pc elem te.size s2 = some (tg, s5) := by
        unfold tight; rw [bind_eq]; exact ⟨_, s5, hg, lift_eq.2 ⟨tg, htg, rfl⟩⟩
      have inv2 : Inv Γ ρ s2.h w := by rw [hs12.1]; exact pre.inv
      have g1' : s.h.get b = some yo := by rw [← hs12.1]; exact g1
      cases hx with
      | sl b o n' c0 c' rb p1 p2 p3 =>
        obtain ⟨t0, t0', t1, t2⟩ := tight_ok (c' := c') hte rfl htight inv2 p1
        cases tg with
        | true =>
          rw [cond_true] at hG
          simp only [pure_eq, Prod.mk.injEq] at hG
          obtain ⟨-, rfl⟩ := hG
          have hc' := (t1 rfl).2 p3
          subst hc'
          exact grow _ c' rfl hle (by rw [t0', hs12.2]) (Stp.same pre.inv (by rw [t0, hs12.1]))
        | false =>
          rw [cond_false] at hG
          simp only [have_eq, need_eq, Bool.and_eq_true, Bool.not_eq_true'] at hG
          obtain ⟨m, hm, ⟨⟨m1, m2⟩, m3⟩, hG⟩ := hG
          rw [metaOf_strip] at hm
          obtain ⟨cc, ce, cl, rfl⟩ := metaOf_some hm
          obtain ⟨mro, mst⟩ := m
          simp only at m2 m3 g1'
          subst m2 m3
          obtain ⟨q1, q2, g2, -, hkh, hkn⟩ := hkill_spec hG
          have hkh' : s3.h = s.h.set b (some .dead) := by rw [hkh, t0, hs12.1]
          have hkn' : s3.nx = s.nx := by rw [hkn, t0', hs12.2]
          have hlim := pre.inv.lim _ _ p1
          by_cases hfit2 : pl + n ≤ c'
          · -- the block has room: it is written in its place
            obtain ⟨z1, z2, z3⟩ := t2 rfl p2
            have hpc : pl = pc := Nat.eq_of_beq_eq_true m1
            obtain ⟨cs, e', fr, hw, cr⟩ := (pre.inv.obj _ _ rb g1' p1).2 p2
            have hcap : o + pc * te.size = rb.n ∧ o + c' * te.size = rb.k := by
              rcases p3 with h | ⟨_, _, h1, h2⟩
              · omega
              · rw [z2] at h1 h2; exact ⟨h1, h2⟩
            obtain ⟨hc1, hc2⟩ := hcap
            have hsz' := cr.size.1 rfl; have hlen' := cr.len; have hle' := cr.le
            have hol := vo.1; have hnl := vnw.1
            rw [List.length_append] at hl
            have hmul : (pl + n) * te.size ≤ c' * te.size := Nat.mul_le_mul_right _ hfit2
            rw [Nat.add_mul] at hl hmul
            -- the old part
            simp only [elems] at hO
            obtain ⟨lO, -, -, holen, -, -⟩ := readCells_ok (P := P) (w := w) hO pre.inv p1 p2
            simp only [readCells, need_eq] at hO
            obtain ⟨-, hO⟩ := hO
            obtain ⟨yy, c9, i1, i2, i3, -, -⟩ := hread_spec hO
            rw [g1'] at i1
            obtain rfl := Option.some.inj i1
            obtain rfl := Option.some.inj i2
            obtain ⟨t3, t4, t5⟩ := (takeAt_iff _ _ _ _).1 i3
            obtain ⟨cs', j1, j2, j3⟩ := run_storeCells (P := P) newW (rb.off + o + pl * te.size) 0 w cs (fun v' hv' => by
                obtain ⟨j, hj⟩ := List.mem_iff_getElem?.1 hv'
                have hjl : j < new.length := by rw [hnl]; exact (List.getElem?_eq_some_iff.1 hj).1
                have hok : (old ++ new).all cellOk = true := by
                  simp only [newCells, need_eq, Bool.and_eq_true] at hB
                  exact hB.1.2
                exact cellOk_one (List.all_eq_true.1 hok _ (List.mem_append.2 (.inr (List.getElem_mem hjl)))) (vnw.2 j _ _ (List.getElem?_eq_getElem hjl) hj)) hw (by omega)
              (fun k hk hk' => cr.free rfl k (by omega) (by omega))
            have hblt : rb.blk < w.heap.size := (Array.getElem?_eq_some_iff.1 hw).1
            have hrun := runIn (some ⟨rb.blk, rb.off + o, none⟩) pl c' w { w with heap := w.heap.setIfInBounds rb.blk (.cells cs' e' fr) } newW hfit2 rnw (by simp only [addr_add]; exact j1)
            simp only [newCells, need_eq, bind_eq, pure_eq, Prod.mk.injEq] at hB
            obtain ⟨-, id, s9, hnw, rfl, rfl⟩ := hB
            obtain ⟨rfl, u1, u2, u3⟩ := hnew_spec hnw
            rw [hkn'] at u1 u2 u3
            rw [hkh'] at u2
            have hle9 := Rho.le_add (rb := ⟨rb.blk, rb.off + o, (old ++ new).length, rb.k - o, te.size, true, false⟩) (pre.free s.nx (Nat.le_refl _) (by omega))
            refine ⟨_, _, ρ.add s.nx ⟨rb.blk, rb.off + o, (old ++ new).length, rb.k - o, te.size, true, false⟩, hrun, ?_, ?_⟩
            · rw [hkn']
              have := VR.sl (ρ := ρ.add s.nx ⟨rb.blk, rb.off + o, (old ++ new).length, rb.k - o, te.size, true, false⟩) s.nx 0 (pl + n) (pl + n) c' _ (Rho.add_self _ _ _) rfl
                (.inr ⟨rfl, hfit2, by simp only [List.length_append]; rw [Nat.add_mul]; omega, by simp only; omega⟩)
              simpa using this
            · refine Stp.take (i := b) (x := .cells cc ce cl false false) hlim (by omega) pre.inv g1' rfl p1 p2 (pre.free s.nx (Nat.le_refl _) (by omega)) rfl u2 (by omega) (OR.ofCells rfl ⟨cs', e', fr, ?_, ?_⟩)
              · rw [heap_set hblt, if_pos rfl]
              · refine ⟨.eq (by simp only; rw [j2]; omega), rfl, by simp only [List.length_append]; omega, rfl, (fun h => by cases h), fun _ => ⟨te, hte, rfl, hpos⟩, fun j v hv => ?_, fun hr k hk hk' => cr.free hr k (by simp only at hk; omega) (by rw [← j2]; exact hk'), cr.plain⟩
                simp only [j3]
                by_cases hj : j < old.length
                · rw [List.getElem?_append_left hj] at hv
                  rw [if_neg (by omega)]
                  obtain ⟨v', w1, w2⟩ := cr.cells (o + j) v (by rw [t5 j (by omega)]; exact hv)
                  exact ⟨v', by rw [show rb.off + o + j = rb.off + (o + j) by omega]; exact w1, w2.mono hle9⟩
                · rw [List.getElem?_append_right (by omega)] at hv
                  have hjn : j - old.length < new.length := (List.getElem?_eq_some_iff.1 hv).1
                  obtain ⟨v', w1, w2⟩ := vnw.get hv
                  rw [if_pos (by omega)]
                  exact ⟨v', by rw [show rb.off + o + j - (rb.off + o + pl * te.size + 0) = j - old.length by omega]; exact w1, w2.mono hle9⟩
          · exact grow _ c' rfl hfit2 hkn' (Stp.kill hlim pre.inv hkh')
      | slg b o c' a' rb p1 p2 =>
        obtain ⟨t0, t0', t1, t2⟩ := tight_ok (c' := c') hte rfl htight inv2 p1
        cases tg with
        | true => have := (t1 rfl).1; rw [p2] at this; cases this
        | false =>
          rw [cond_false] at hG
          simp only [have_eq, need_eq, Bool.and_eq_true, Bool.not_eq_true'] at hG
          obtain ⟨m, hm, ⟨⟨m1, m2⟩, m3⟩, hG⟩ := hG
          rw [metaOf_strip] at hm
          obtain ⟨cc, ce, cl, rfl⟩ := metaOf_some hm
          obtain ⟨hr, -⟩ := (pre.inv.obj _ _ rb g1' p1).1 p2
          rw [hr] at m2; cases m2

end ops
end Go.Ideal

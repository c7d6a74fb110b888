/-
  Drawn regions: one operation, in whatever order. Conditions: none.
-/
import Derived.Test.YtpoaiachllclhaaGreatDoorDraw3
namespace Go.Ideal
open Go

section ds
variable {P : Program} {Γ : Cx} {call : CallF} {size : Nat} {ops : Array Oper} {T : Nat → Env} {h : Nat → Tr IObj} {n : Nat → Nat} {v : Nat → Value} {f : Nat → Foot} {run : Nat → Bool}

/-- the temporaries, when one more is written -/
theorem DS.tmps (S : DS P Γ call size ops T h n v f run) {ρ0 ρ ρ' : Rho} {s0 : HS} {w0 w : World} {ds0 : List Deferred} {D : Nat → Prop} {t : Tr IObj} {a : Act} (I : Sim Γ size ops T h n v f ρ0 s0 w0 ds0 D ρ t a w)
    {i : Nat} {o : Oper} (hi : i < ops.size) (ho : ops[i]? = some o) (hD : ¬ D i) (hle : Rho.le ρ ρ') {v' : Value} (hv : VR ρ' (v i) v') :
    (a.put o.dst v').tmps.size = size ∧ (a.put o.dst v').defers = ds0 ∧
    (∀ (j : Nat) oj τ, (D j ∨ j = i) → ops[j]? = some oj → oj.dst = some τ → ∃ x', (a.put o.dst v').tmps[τ]? = some x' ∧ VR ρ' (v j) x') ∧
    (∀ τ u, (T 0).get τ = some u → (∀ (j : Nat) oj, (D j ∨ j = i) → ops[j]? = some oj → oj.dst ≠ some τ) → ∃ x', (a.put o.dst v').tmps[τ]? = some x' ∧ VR ρ' u x') := by
  have hp := S.tr.put i o (Nat.zero_le _) hi ho
  have far : ∀ τ, o.dst ≠ some τ → (a.put o.dst v').tmps[τ]? = a.tmps[τ]? := fun τ hτ => by
    cases hd : o.dst with
    | none => rfl
    | some d =>
      simp only [Act.put]
      rw [Array.getElem?_setIfInBounds, if_neg (fun e => hτ (by rw [hd, e]))]
  have near : ∀ τ, o.dst = some τ → (a.put o.dst v').tmps[τ]? = some v' := fun τ hτ => by
    rw [hτ] at hp
    simp only [Go.Ideal.put] at hp
    cases hb : Nat.blt τ size with
    | false => rw [hb] at hp; cases hp
    | true =>
      have hτs : Nat.lt τ size := Nat.le_of_ble_eq_true hb
      rw [hτ]
      simp only [Act.put]
      rw [Array.getElem?_setIfInBounds, if_pos rfl, if_pos (by rw [I.size]; exact hτs)]
  refine ⟨?_, ?_, fun j oj τ hj hoj hd => ?_, fun τ u hu hno => ?_⟩
  · rw [← I.size]; cases o.dst <;> simp [Act.put]
  · rw [← I.defers]; cases o.dst <;> rfl
  · rcases hj with hj | rfl
    · have hij : i ≠ j := fun e => hD (e ▸ hj)
      rw [far τ (fun e => S.R.dst i j o oj τ hij ho hoj e hd)]
      obtain ⟨x, h1, h2⟩ := I.tmpD j oj τ hj hoj hd
      exact ⟨x, h1, h2.mono hle⟩
    · obtain rfl := Option.some.inj (ho.symm.trans hoj)
      exact ⟨v', near τ hd, hv⟩
  · rw [far τ (hno i o (.inr rfl) ho)]
    obtain ⟨x, h1, h2⟩ := I.tmp0 τ u hu fun j oj hj => hno j oj (.inl hj)
    exact ⟨x, h1, h2.mono hle⟩

theorem DS.simStep (S : DS P Γ call size ops T h n v f run) {ρ0 ρ : Rho} {s0 : HS} {w0 w : World} {ds0 : List Deferred} {D : Nat → Prop} {t : Tr IObj} {a : Act} (I : Sim Γ size ops T h n v f ρ0 s0 w0 ds0 D ρ t a w) (cl : Closed ops D)
    (fix0 : Fix Γ ρ0 s0.h w0) (hn0 : s0.nx = n 0) (free0 : ∀ k, n 0 ≤ k → k < n ops.size → ρ0 k = none) {F : Fence} (hF : Wide F) {Q : Exit → Act → World → Prop}
    {i : Nat} {o : Oper} (hi : i < ops.size) (ho : ops[i]? = some o) (hD : ¬ D i) (hb : ∀ j, j < i → Nat.testBit (bits ops i) j = true → D j) :
    wpOpIn F 0 P ops Q i (fun a' w' => ∃ ρ' t', Sim Γ size ops T h n v f ρ0 s0 w0 ds0 (fun j => D j ∨ j = i) ρ' t' a' w') a w := by
  have hlook := fun τ u (hτ : τ ∈ looksAll ops o) hu => S.looked I cl hi ho hD hb (τ := τ) (u := u) hτ hu
  have hmono := S.mono
  obtain ⟨hni, hlo, hhi, hkeep, hcl⟩ := S.step hi
  have hN : n (i + 1) ≤ n ops.size := hmono ops.size (Nat.le_refl _) (i + 1) (by omega)
  have h0i : n 0 ≤ n i := hmono i (by omega) 0 (Nat.zero_le _)
  have hlim : n ops.size ≤ 200000 := (S.wf ops.size (Nat.le_refl _)).lim
  -- what it looks at
  obtain ⟨T', hT'⟩ := env_of (fun τ => if τ ∈ looksAll ops o then (T i).get τ else none) (fun τ hτ => by
    by_cases hm : τ ∈ looksAll ops o
    · simp only [if_pos hm]
      cases hu : (T i).get τ with
      | none => rfl
      | some u =>
        obtain ⟨x, h1, -⟩ := hlook τ u hm hu
        have := (Array.getElem?_eq_some_iff.1 h1).1
        rw [I.size] at this
        have := S.lim
        omega
    · simp only [if_neg hm])
  have trT : TR ρ T' a.tmps := fun τ u hu => by
    rw [hT'] at hu
    by_cases hm : τ ∈ looksAll ops o
    · rw [if_pos hm] at hu; exact hlook τ u hm hu
    · rw [if_neg hm] at hu; cases hu
  have hw : Region.wanted o (yielded ops a.tmps) = run i := by
    refine wants_ok (T := T') ?_ trT
    rw [wants_congr (T' := T i) fun τ hτ => by rw [hT', if_pos (show τ ∈ looksAll ops o from List.mem_append.2 (.inr hτ))]]
    exact S.tr.wants i o (Nat.zero_le _) hi ho
  unfold wpOpIn
  simp only [ho, hw]
  cases hr : run i with
  | false =>
    simp only [Bool.false_eq_true, if_false]
    obtain ⟨e1, e2, e3, e4⟩ := S.tr.no i o (Nat.zero_le _) hi ho hr
    refine ⟨fun f _ => hF.fn f, ρ, t, ?_⟩
    obtain ⟨p1, p2, p3, p4⟩ := S.tmps I hi ho hD (Rho.le.refl ρ) (v' := undef) (by rw [e1]; exact VR.tup' (VRs.nil ρ))
    have hwr : ∀ k, ¬ wrote n f i k := fun k hk => by
      have := hk.1
      rw [e4] at this
      exact this (Tr.get_e k)
    refine ⟨I.stp, fun k rb hk => (I.dom k rb hk).imp id fun ⟨j, h1, h2⟩ => ⟨j, .inl h1, h2⟩, p1, p2, p3, p4, fun b hb' hno => I.off b hb' fun ⟨j, h1, h2⟩ => hno ⟨j, .inl h1, h2⟩, fun k hk => ?_, I.short⟩
    obtain ⟨m, hm, hlast, hview⟩ := I.on k (hk.imp id fun ⟨j, h1, h2, h3, h4⟩ => by
      rcases h1 with h1 | rfl
      · exact ⟨j, h1, h2, h3, h4⟩
      · omega)
    refine ⟨m, hm.imp id fun ⟨j, h1, h2⟩ => ⟨j, .inl h1, h2⟩, fun j hj hjs hmj => ?_, hview⟩
    rcases hj with hj | rfl
    · exact hlast j hj hjs hmj
    · exact hwr k
  | true =>
    simp only [if_true, Oper.wpIn]
    obtain ⟨q, q1, q2, q3, q4⟩ := S.tr.yes i o (Nat.zero_le _) hi ho hr
    have L := S.locAt (S.wf i (by omega)) q1
    have htch : ∀ k, (q.rd.get k ≠ none ∨ q.wr.get k ≠ none) → tch (f i) k := fun k hk => by rw [q4]; exact hk
    -- the heap, cut
    obtain ⟨tc, htc⟩ := heap_of (fun k => if k < n i then t.get k else none) (fun k hk => by rw [if_neg (by omega)])
    have hcutv : ∀ k, k / 4096 < n i → view tc k = view t k := fun k hk => view_of_get (by rw [htc, if_pos hk])
    have hseen : ∀ k, k / 4096 < n i → tch (f i) k → view t k = view (h i) k := fun k hk ht => S.seen I cl hi hD hb ht hk
    obtain ⟨t1, r1, r2, r3, r4, r5, r6, r7, r8, r9⟩ := L.again (bare tc (n i)) rfl rfl rfl rfl (fun k hk hh => by
      have hk : k / 4096 < n i := hk
      show view tc k = view (h i) k
      rw [hcutv k hk, hseen k hk (htch k hh)]) (fun b h1 h2 => by
        have h1 : n i ≤ b := h1
        have h2 : b < n i := h2
        omega)
    have wfc : WF (bare tc (n i)) := by
      refine ⟨Nat.le_refl _, by show n i ≤ 200000; omega, fun k hk => ?_, fun k x c hk hc => ?_, fun k hk => ?_⟩
      · have hk : n i ≤ k := hk
        show tc.get k = none
        rw [htc, if_neg (by omega)]
      · have hk : tc.get k = some x := hk
        rw [htc] at hk
        by_cases hkn : k < n i
        · rw [if_pos hkn] at hk; exact I.short k x c hk hc
        · rw [if_neg hkn] at hk; cases hk
      · rcases hk with h | h <;> exact absurd (Tr.get_e k) h
    have Lc : LocAt (anyOp o.op Γ call (T i)) (bare tc (n i)) (v i) t1 := (Loc.anyOp S.K.loc _ _).at_ _ _ _ wfc r1
    have n1 : t1.nx = n (i + 1) := by rw [r2, q3]
    have preC : Pre Γ ρ (bare tc (n i)) w t1 := by
      refine ⟨I.stp.inv.cut htc, fun k hk hk' => ?_, (fix0.step I.stp).val, fun b o hb => ?_⟩
      case refine_2 =>
        obtain ⟨z1, z2⟩ := (fix0.step I.stp).keep b o hb
        refine ⟨z1, fun hi => z2 ?_⟩
        obtain ⟨j, x, rb, y1, y2⟩ := hi
        have y1 : tc.get j = some x := y1
        rw [htc] at y1
        by_cases hj : j < n i
        · rw [if_pos hj] at y1; exact ⟨j, x, rb, y1, y2⟩
        · rw [if_neg hj] at y1; cases y1
      have hk : n i ≤ k := hk
      rw [n1] at hk'
      cases hx : ρ k with
      | none => rfl
      | some rb =>
        exfalso
        rcases I.dom k rb hx with h1 | ⟨j, h1, h2, h3, h4⟩
        · rw [free0 k (by omega) (by omega)] at h1; cases h1
        · exact hD (S.maker_eq hi h2 hk hk' h3 h4 ▸ h1)
    have r1' : anyOp o.op Γ call T' (bare tc (n i)) = some (v i, t1) := by
      rw [anyOp_congr (T' := T i) fun τ hτ => by rw [hT', if_pos (show τ ∈ looksAll ops o from List.mem_append.2 (.inl hτ))]]
      exact r1
    refine ⟨fun f _ => hF.fn f, uponIn_of hF (anyOp_ok S.C S.K r1' wfc preC trT hF) fun v' w' ρ' hv st => ?_⟩
    -- the heap, joined
    have toff : ∀ k, n ops.size ≤ k → t.get k = none := fun k hk => I.off k (by have := hmono ops.size (Nat.le_refl _) 0 (Nat.zero_le _); omega) fun ⟨j, _, h2, _, h4⟩ => by
      have := hmono ops.size (Nat.le_refl _) (j + 1) (by omega); omega
    obtain ⟨t', ht'⟩ := heap_of (fun k => if k < n (i + 1) then t1.h.get k else t.get k) (fun k hk => by rw [if_neg (by omega)]; exact toff k (by omega))
    have hgap : ∀ k, n i ≤ k → k < n (i + 1) → t.get k = none := fun k h1 h2 => I.off k (by omega) fun ⟨j, a1, a2, a3, a4⟩ => hD (S.maker_eq hi a2 h1 h2 a3 a4 ▸ a1)
    have hdom1 : ∀ k rb, ρ' k = some rb → ρ k = some rb ∨ (n i ≤ k ∧ k < n (i + 1)) := fun k rb hk => by
      rcases st.dom k rb hk with h1 | ⟨h1, h2⟩
      · exact .inl h1
      · rw [n1] at h2; exact .inr ⟨h1, h2⟩
    have lifted := Stp.lift st I.stp.inv htc hni hgap ht' hdom1 { h := t, nx := n i, wm := 0, rd := .e, wr := .e } { h := t', nx := n (i + 1), wm := 0, rd := .e, wr := .e } rfl rfl hdom1
    have hdom' : ∀ k rb, ρ' k = some rb → ρ0 k = some rb ∨ ∃ j, (D j ∨ j = i) ∧ j < ops.size ∧ n j ≤ k ∧ k < n (j + 1) := fun k rb hk => by
      rcases hdom1 k rb hk with h1 | ⟨h1, h2⟩
      · exact (I.dom k rb h1).imp id fun ⟨j, a1, a2⟩ => ⟨j, .inl a1, a2⟩
      · exact .inr ⟨i, .inr rfl, hi, h1, h2⟩
    obtain ⟨p1, p2, p3, p4⟩ := S.tmps I hi ho hD st.ext hv
    have v1 : ∀ k, k / 4096 < n (i + 1) → view t' k = view t1.h k := fun k hk => view_of_get (by rw [ht', if_pos hk])
    have v2 : ∀ k, n (i + 1) ≤ k / 4096 → view t' k = view t k := fun k hk => view_of_get (by rw [ht', if_neg (by omega)])
    have hfi : (f i).wr = q.wr := by rw [q4]
    refine ⟨ρ', t', Stp.comp I.stp lifted rfl rfl rfl (fun k rb hk => ?_), hdom', p1, p2, p3, p4, fun b hb0 hno => ?_, fun k hk => ?_, fun k x c hk hc => ?_⟩
    · rcases hdom' k rb hk with h1 | ⟨j, -, h2, h3, h4⟩
      · exact .inl h1
      · have a1 := hmono ops.size (Nat.le_refl _) (j + 1) (by omega)
        have a2 := hmono j (by omega) 0 (Nat.zero_le _)
        exact .inr ⟨by rw [hn0]; omega, by show k < n ops.size; omega⟩
    · have hnoD : ¬ ∃ j, D j ∧ j < ops.size ∧ n j ≤ b ∧ b < n (j + 1) := fun ⟨j, h1, h2⟩ => hno ⟨j, .inl h1, h2⟩
      have htb := I.off b hb0 hnoD
      by_cases hbi : b < n i
      · rw [ht', if_pos (by omega)]
        have hkb : key b 0 / 4096 = b := key_div _ _ (by omega)
        have hnt : t1.wr.get (key b 0) = none := by
          cases hx : t1.wr.get (key b 0) with
          | none => rfl
          | some u =>
            exfalso
            obtain ⟨c, hc, h1, h2⟩ := S.maker i (by omega) hb0 hbi
            have ht : tch (f i) (key b 0) := htch _ (.inr (by rw [← r5, hx]; simp))
            exact hnoD ⟨c, hb c hc (S.made hi hc ht (by rw [hkb]; exact h1) (by rw [hkb]; exact h2)), by omega, h1, h2⟩
        have hv1 := Lc.keep (key b 0) (by rw [hkb]; exact hbi) hnt
        have hv2 := view_inl_get hv1
        have : (bare tc (n i)).h.get b = none := by show tc.get b = none; rw [htc, if_pos hbi]; exact htb
        rw [this] at hv2
        simpa using hv2
      · by_cases hbi2 : b < n (i + 1)
        · exact absurd ⟨i, .inr rfl, hi, by omega, hbi2⟩ hno
        · rw [ht', if_neg hbi2]; exact htb
    · by_cases hk1 : n (i + 1) ≤ k / 4096
      · -- above what this one made
        obtain ⟨m, hm, hlast, hview⟩ := I.on k (hk.imp id fun ⟨j, h1, h2, h3, h4⟩ => by
          rcases h1 with h1 | rfl
          · exact ⟨j, h1, h2, h3, h4⟩
          · omega)
        refine ⟨m, hm.imp id fun ⟨j, h1, h2⟩ => ⟨j, .inl h1, h2⟩, fun j hj hjs hmj => ?_, by rw [v2 k hk1]; exact hview⟩
        rcases hj with hj | rfl
        · exact hlast j hj hjs hmj
        · exact fun hh => by have := hh.2; omega
      · have hk1 : k / 4096 < n (i + 1) := by omega
        have after : ∀ (j : Nat), D j → j < ops.size → i + 1 ≤ j → (tch (f i) k ∧ (f i).wr.get k ≠ none) ∨ n i ≤ k / 4096 → ¬ wrote n f j k := by
          intro j hj hjs hij hh hwj
          refine hD (cl j i hj hjs (by omega) ?_)
          rcases hh with ⟨h1, -⟩ | h1
          · exact S.meet hjs (by omega) (.inr ⟨hwj.1, h1⟩)
          · exact S.made hjs (by omega) (.inr hwj.1) h1 hk1
        by_cases hk2 : n i ≤ k / 4096
        · refine ⟨i + 1, .inr ⟨i, .inr rfl, hi, rfl, hk1, .inr hk2⟩, fun j hj hjs hmj => ?_, ?_⟩
          · rcases hj with hj | rfl
            · exact after j hj hjs hmj (.inr hk2)
            · omega
          · rw [v1 k hk1]
            refine view_of_get ?_
            rw [r8 (k / 4096) hk2 (by rw [q3]; exact hk1), q2]
        · have hk2 : k / 4096 < n i := by omega
          by_cases hwk : q.wr.get k ≠ none
          · refine ⟨i + 1, .inr ⟨i, .inr rfl, hi, rfl, hk1, .inl ⟨by rw [hfi]; exact hwk, hk2⟩⟩, fun j hj hjs hmj => ?_, ?_⟩
            · rcases hj with hj | rfl
              · exact after j hj hjs hmj (.inl ⟨htch k (.inr hwk), by rw [hfi]; exact hwk⟩)
              · omega
            · rw [v1 k hk1, r6 k hk2 hwk, q2]
          · have hwk : q.wr.get k = none := by
              cases hx : q.wr.get k with
              | none => rfl
              | some u => exact absurd (by rw [hx]; simp) hwk
            obtain ⟨m, hm, hlast, hview⟩ := I.on k (hk.imp id fun ⟨j, h1, h2, h3, h4⟩ => by
              rcases h1 with h1 | rfl
              · exact ⟨j, h1, h2, h3, h4⟩
              · omega)
            refine ⟨m, hm.imp id fun ⟨j, h1, h2⟩ => ⟨j, .inl h1, h2⟩, fun j hj hjs hmj => ?_, ?_⟩
            · rcases hj with hj | rfl
              · exact hlast j hj hjs hmj
              · exact fun hh => hh.1 (by rw [hfi]; exact hwk)
            · rw [v1 k hk1, r7 k hk2 hwk]
              exact (hcutv k hk2).trans hview
    · rw [ht'] at hk
      by_cases hkn : k < n (i + 1)
      · rw [if_pos hkn] at hk; exact Lc.wf.short k x c hk hc
      · rw [if_neg hkn] at hk; exact I.short k x c hk hc

end ds
end Go.Ideal

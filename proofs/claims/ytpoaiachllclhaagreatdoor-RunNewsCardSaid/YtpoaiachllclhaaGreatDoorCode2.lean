/-
  Code: what the evaluator runs, the program runs. Conditions: none.
-/
import Derived.Test.YtpoaiachllclhaaGreatDoorCode
namespace Go.Ideal
open Go

section code
variable {P : Program} {Γ : Cx}

/-- how a piece of code ends -/
def Post (Γ : Cx) (ρ : Rho) (s : HS) (w : World) (s' : HS) (x : Ex) (F' : Fm) : Exit → Act → World → Prop :=
  fun e a' w' => e = exOf x ∧ ∃ ρ', FR ρ' F' a' ∧ Stp Γ ρ s w ρ' s' w'

theorem Post.after {ρ ρ1 : Rho} {s s1 s' : HS} {w w1 : World} {x : Ex} {F' : Fm} {e : Exit} {a' : Act} {w' : World} (st : Stp Γ ρ s w ρ1 s1 w1) (n1 : s.nx ≤ s1.nx) (n2 : s1.nx ≤ s'.nx) (h : Post Γ ρ1 s1 w1 s' x F' e a' w') : Post Γ ρ s w s' x F' e a' w' := by
  obtain ⟨he, ρ', h1, h2⟩ := h
  exact ⟨he, ρ', h1, st.trans h2 n1 n2⟩

theorem wpIn_code_congr {F : Fence} {n : Nat} {c : Code} {Q Q' : Exit → Act → World → Prop} {a : Act} {w : World} (h : c.wpIn F n P Q a w) (hq : ∀ e a w, Q e a w → Q' e a w) : c.wpIn F n P Q' a w := wpIn_mono h hq

theorem resolve_range {a : Act} {g : Operand} {l : Nat} {d : Deferred} {w w1 : World} (h : (Deferred.ofValue (a.eval g) #[.func (.yield l) #[] #[]]).run P w = .ok d w1) : (resolve a.eval (rangeCall g l) 0).run P w = .ok d w1 := by
  have e : (#[Operand.const (Value.func (.yield l) #[] #[])].map a.eval) = #[Value.func (.yield l) #[] #[]] := by
    rw [show ∀ o : Operand, (#[o].map a.eval) = #[a.eval o] from fun o => by simp]; rfl
  simp only [resolve, e]
  exact h

/-- a new mark, and its block -/
theorem mark_ok {ρ : Rho} {s s1 : HS} {w : World} {i : Nat} (h : hnew .mark s = some (i, s1)) (inv : Inv Γ ρ s.h w) (hf : ρ s.nx = none) :
    i = s.nx ∧ s1.nx = s.nx + 1 ∧ Stp Γ ρ s w (ρ.add s.nx ⟨w.heap.size, 0, 0, 0, 0, false, false⟩) s1 (w.alloc (.deferred (some []))) := by
  obtain ⟨rfl, l1, l2, l3⟩ := hnew_spec h
  refine ⟨rfl, l3, Stp.new (by omega) inv hf rfl l2 (by omega) ⟨?_, rfl⟩⟩
  show (w.heap.push _)[w.heap.size]? = _
  simp

theorem loop_new {ρ : Rho} {s s1 : HS} {w : World} {i fn : Nat} {F : Fm} {a : Act} {ps : Array Tmp} {assign body : Code} {mk : Nat} {rb : RB} {fn' : FuncId}
    (h : hnew (.loop 0 none fn F.T F.size ps.toList assign body mk) s = some (i, s1)) (inv : Inv Γ ρ s.h w) (hf : ρ s.nx = none) (fr : TR ρ F.T a.tmps) (hs : a.tmps.size = F.size) (hm : ρ mk = some rb) :
    i = s.nx ∧ s1.nx = s.nx + 1 ∧ Stp Γ ρ s w (ρ.add s.nx ⟨w.heap.size, 0, 0, 0, 0, false, false⟩) s1 (w.alloc (.loop { state := .ready, pending := none, fn := fn', tmps := a.tmps, params := ps, assign, body, defers := rb.blk })) := by
  obtain ⟨rfl, l1, l2, l3⟩ := hnew_spec h
  have hle := Rho.le_add (rb := ⟨w.heap.size, 0, 0, 0, 0, false, false⟩) hf
  refine ⟨rfl, l3, Stp.new (by omega) inv hf rfl l2 (by omega) ⟨{ state := .ready, pending := none, fn := fn', tmps := a.tmps, params := ps, assign, body, defers := rb.blk }, ?_, rfl, rfl, trivial, fr.mono hle, hs, rfl, rfl, rfl, ⟨rb, hle.get _ _ hm, rfl⟩, rfl⟩⟩
  show (w.heap.push _)[w.heap.size]? = _
  simp

theorem rangeEnd_ok {ρ : Rho} {s s' : HS} {w : World} {F F' : Fm} {l : Nat} {x : Ex} {rb : RB} (h : endRange F l s = some ((x, F'), s')) (inv : Inv Γ ρ s.h w) (hl : ρ l = some rb) :
    ∃ jump w', (Instr.endLoop rb.blk).run P w = .ok jump w' ∧ Stp Γ ρ s w ρ s' w' ∧ s'.nx = s.nx ∧ F' = F ∧ ((jump = none ∧ x = .normal) ∨ (jump = some .ret ∧ x = .ret) ∨ ∃ id, jump = some (.exit id) ∧ x = .exit id) := by
  simp only [endRange, bind_eq] at h
  obtain ⟨o, s1, h1, h⟩ := h
  obtain ⟨y, g1, rfl, e1, n1⟩ := hget_spec h1
  cases y <;> dsimp only [strip] at h <;> try (simp [EM.fail] at h; done)
  rename_i st pend fn T size ps as bd mk
  simp only [need_eq, bind_eq] at h
  obtain ⟨hst, u, s2, h2, h⟩ := h
  obtain ⟨z, d1, d2, d3, d4, d5⟩ := hset_spec h2
  rw [e1] at d1 d4
  obtain ⟨lp, b1, b2, b3, b4, b5, b6, b7, b8, b9, b10, b11⟩ := inv.obj _ _ rb g1 hl
  have hbusy : lp.state ≠ .busy := fun e => by
    rw [b2] at e
    unfold stateOf at e
    split at e <;> first | (cases e; done) | simp at hst
  have hrun := run_endLoop (P := P) b1 hbusy
  have hblt : rb.blk < w.heap.size := (Array.getElem?_eq_some_iff.1 b1).1
  have stp : Stp Γ ρ s w ρ s2 (w.putObj rb.blk (.loop { lp with state := .exhausted })) := by
    refine Stp.put (x' := .loop 3 pend fn T size ps as bd mk) (inv.lim _ _ hl) inv g1 rfl hl b11 d4 ⟨{ lp with state := .exhausted }, by rw [heap_set hblt, if_pos rfl], rfl, b3, trivial, b5, b6, b7, b8, b9, b10, b11⟩
  have hn : s2.nx = s.nx := by rw [d5, n1]
  cases pend with
  | none =>
    dsimp only at h
    simp only [pure_eq, Prod.mk.injEq] at h
    obtain ⟨⟨rfl, rfl⟩, rfl⟩ := h
    exact ⟨_, _, hrun, stp, hn, rfl, .inl ⟨b3, rfl⟩⟩
  | some c =>
    cases c <;> dsimp only at h <;> try (simp [EM.fail] at h; done)
    · simp only [pure_eq, Prod.mk.injEq] at h
      obtain ⟨⟨rfl, rfl⟩, rfl⟩ := h
      exact ⟨_, _, hrun, stp, hn, rfl, .inr (.inr ⟨_, b3, rfl⟩)⟩
    · simp only [pure_eq, Prod.mk.injEq] at h
      obtain ⟨⟨rfl, rfl⟩, rfl⟩ := h
      exact ⟨_, _, hrun, stp, hn, rfl, .inr (.inl ⟨b3, rfl⟩)⟩

theorem isFn_eq {v : Value} (h : isFn v = true) : ∃ g a b, v = .func (.func g) a b := by
  unfold isFn at h
  split at h
  · exact ⟨_, _, _, rfl⟩
  · cases h

theorem rangeFunc_ok {call : CallF} (K : CallOk P Γ call) {Fc : Fence} (hF : Wide Fc) {f : Operand} {ps : Array Tmp} {assign body : Code} {F F' : Fm} {x : Ex} {s s' : HS} {ρ : Rho} {a : Act} {w : World}
    (h : runRange f ps assign body call F s = some ((x, F'), s')) (wf : WF s) (pre : Pre Γ ρ s w s') (fr : FR ρ F a) (hr : OptR ρ F.round Fc.round) :
    (Code.rangeFunc f ps assign body).wpIn Fc 0 P (Post Γ ρ s w s' x F') a w := by
  simp only [runRange, have_eq, need_eq, bind_eq] at h
  obtain ⟨v, hv, hfn, mk, s1, h1, l, s2, h2, u, s3, h3, h4⟩ := h
  obtain ⟨g, first, captured, rfl⟩ := isFn_eq hfn
  have n1 := (Loc.markFor F).up _ _ _ h1
  have n2 := (Loc.hnew (.loop 0 none F.fn F.T F.size ps.toList assign body mk.1) (by intro c h; cases h)).up _ _ _ h2
  have n3 := (Loc.callV K.loc [.func (.yield l) #[] #[]] (.func (.func g) first captured)).up _ _ _ h3
  have n4 := (Loc.endRange { F with ms := mk.2 ++ F.ms } l).up _ _ _ h4
  have wf1 := ((Loc.markFor F).at_ _ _ _ wf h1).wf
  have wf2 := ((Loc.hnew (.loop 0 none F.fn F.T F.size ps.toList assign body mk.1) (by intro c h; cases h)).at_ _ _ _ wf1 h2).wf
  refine wpIn_rangeFunc fun fn hfn' => ?_
  -- the mark and the record
  have enter : ∃ rbm mark ρ1 w1, ρ1 mk.1 = some rbm ∧ Stp Γ ρ s w ρ1 s1 w1 ∧ MR ρ1 mk.2 mark ∧
      (Instr.enterLoop fn a.tmps ps assign body Fc.round).run P w = .ok (w1.heap.size, mark) (w1.alloc (.loop { state := .ready, pending := none, fn, tmps := a.tmps, params := ps, assign, body, defers := rbm.blk })) := by
    cases hro : F.round with
    | none =>
      simp only [markFor, hro, bind_eq, pure_eq, Prod.mk.injEq] at h1
      obtain ⟨m, sm, hm, rfl, rfl⟩ := h1
      rw [hro] at hr
      have hcr : Fc.round = none := by cases hc : Fc.round <;> rw [hc] at hr <;> simp only [OptR] at hr
      obtain ⟨rfl, q1, q2⟩ := mark_ok hm pre.inv (pre.free _ (Nat.le_refl _) (by have := hnew_spec hm; omega))
      refine ⟨_, _, _, _, Rho.add_self _ _ _, q2, ⟨rfl, fun j m d hj hd => ?_⟩, by rw [hcr, run_enterLoop_outer, World.size_alloc]⟩
      cases j with
      | zero =>
        simp at hj hd
        subst hj hd
        exact ⟨_, Rho.add_self _ _ _, rfl⟩
      | succ j => simp at hj
    | some l0 =>
      simp only [markFor, hro, bind_eq] at h1
      obtain ⟨o, sm, hm, h1⟩ := h1
      obtain ⟨y, g1, rfl, e1, en⟩ := hget_spec hm
      cases y <;> dsimp only [strip] at h1 <;> try (simp [EM.fail] at h1; done)
      rename_i st pend fn0 T size ps0 as0 bd0 mk0
      simp only [pure_eq, Prod.mk.injEq] at h1
      obtain ⟨rfl, rfl⟩ := h1
      rw [hro] at hr
      obtain ⟨l0', hcr⟩ : ∃ l0', Fc.round = some l0' := by cases hc : Fc.round <;> rw [hc] at hr <;> first | (simp only [OptR] at hr; done) | exact ⟨_, rfl⟩
      rw [hcr] at hr
      obtain ⟨rb0, z1, rfl⟩ := hr
      obtain ⟨lp, b1, b2, b3, b4, b5, b6, b7, b8, b9, ⟨rbm, b10, b10'⟩, b11⟩ := pre.inv.obj _ _ rb0 g1 z1
      refine ⟨rbm, [], ρ, w, b10, Stp.same pre.inv e1, ⟨rfl, fun j m d hj => by simp at hj⟩, ?_⟩
      rw [hcr]
      unfold Instr.enterLoop
      simp only [Sem.run_bind, run_getLoop b1, Result.andThen_ok, Sem.run_pure, run_newObj, b10']
      rfl
  obtain ⟨rbm, mark, ρ1, w1, m1, st1, mr1, hent⟩ := enter
  have pre1 := pre.split st1 n1
  obtain ⟨rfl, q1, st2⟩ := loop_new (fn' := fn) (a := a) h2 st1.inv (pre1.free _ (Nat.le_refl _) (by have := hnew_spec h2; omega)) (fr.tr.mono st1.ext) fr.size m1
  have st12 := st1.trans st2 n1 n2
  have pre2 := pre1.split st2 n2
  have hyv : VRs (ρ1.add s1.nx ⟨w1.heap.size, 0, 0, 0, 0, false, false⟩) [.func (.yield s1.nx) #[] #[]] [.func (.yield w1.heap.size) #[] #[]] :=
    VRs.cons (.yld s1.nx _ (Rho.add_self _ _ _)) (VRs.nil _)
  have hvv := (lookV hv fr.tr).mono st12.ext
  -- the call
  generalize ha' : a.eval f = f' at hvv
  dsimp only [callV] at h3
  cases hvv with
  | fn g0 l0 l0' m0 m0' z1 z2 z3 z4 =>
    have hargs : VRs (ρ1.add s1.nx ⟨w1.heap.size, 0, 0, 0, 0, false, false⟩) (l0 ++ [.func (.yield s1.nx) #[] #[]] ++ m0) (l0' ++ [.func (.yield w1.heap.size) #[] #[]] ++ m0') := VRs.append (VRs.append ⟨z1, z2⟩ hyv) ⟨z3, z4⟩
    have h3' : call true g (l0 ++ [.func (.yield s1.nx) #[] #[]] ++ m0) s2 = some (u, s3) := by simpa using h3
    have hne : Γ.ext g = none := by
      cases he : Γ.ext g with
      | none => rfl
      | some e => exact absurd (K.noFn (l := s1.nx) he (List.mem_append.2 (.inl (List.mem_append.2 (.inr (List.mem_cons_self ..))))) h3') id
    obtain ⟨⟨w9, y1, rfl⟩, y2⟩ := K.fn hne h3' wf2 (pre2.cut n4) hargs
    refine ⟨w1.heap.size, mark, _, { target := .fn (.func g) m0'.toArray, args := l0'.toArray ++ #[Value.func (.yield w1.heap.size) #[] #[]] }, _, g, (l0' ++ [Value.func (.yield w1.heap.size) #[] #[]] ++ m0').toArray, ?w2, hent, resolve_range (by rw [ha']; rfl), fun f' _ => hF.fn f', ?hinv, (fun h => by rw [hF.depth] at h; cases h), ?hcall⟩
    case hinv =>
      show (callFunc g (l0'.toArray ++ #[Value.func (.yield w1.heap.size) #[] #[]] ++ m0'.toArray)).run P _ = _
      rw [show (l0'.toArray ++ #[Value.func (.yield w1.heap.size) #[] #[]] ++ m0'.toArray) = (l0' ++ [Value.func (.yield w1.heap.size) #[] #[]] ++ m0').toArray by simp]
      exact y1
    case hcall =>
      refine CallsIn.mono (y2 Fc hF) ?_
      rintro e w3 ⟨v', ρ3, rfl, -, st3⟩
      have hl3 : ρ3 s1.nx = some ⟨w1.heap.size, 0, 0, 0, 0, false, false⟩ := st3.ext.get _ _ (Rho.add_self _ _ _)
      obtain ⟨jump, w4, r1, r2, r3, rfl, r4⟩ := rangeEnd_ok (P := P) h4 st3.inv hl3
      have stAll := st12.trans (st3.trans r2 n3 n4) (by omega) (by omega)
      have frE : FR ρ3 { F with ms := mk.2 ++ F.ms } { a with defers := mark ++ a.defers } := by
        refine ⟨fr.tr.mono (st12.ext.trans st3.ext), fr.size, fr.lim, ?_⟩
        have A := mr1.mono (st2.ext.trans st3.ext)
        have B := fr.marks.mono (st12.ext.trans st3.ext)
        refine ⟨by simp [A.1, B.1], fun j m d hj hd => ?_⟩
        by_cases hjl : j < mk.2.length
        · exact A.2 j m d (by rwa [List.getElem?_append_left hjl] at hj) (by rwa [List.getElem?_append_left (by rw [← A.1]; exact hjl)] at hd)
        · exact B.2 (j - mk.2.length) m d (by rwa [List.getElem?_append_right (by omega)] at hj) (by rw [A.1]; rwa [List.getElem?_append_right (by rw [← A.1]; omega)] at hd)
      refine ⟨jump, w4, r1, ?_⟩
      rcases r4 with ⟨rfl, rfl⟩ | ⟨rfl, rfl⟩ | ⟨id, rfl, rfl⟩
      · exact ⟨rfl, ρ3, frE, stAll⟩
      · exact wpIn_ret ⟨rfl, ρ3, frE, stAll⟩
      · exact wpIn_exit ⟨rfl, ρ3, frE, stAll⟩

theorem code_ok (C : CxOk P Γ) {call : CallF} (K : CallOk P Γ call) (D : DrawOk P Γ) {Fc : Fence} (hF : Wide Fc) (c : Code) : ∀ {n : Nat} {F F' : Fm} {x : Ex} {s s' : HS} {ρ : Rho} {a : Act} {w : World},
    runCode c Γ call n F s = some ((x, F'), s') → WF s → Pre Γ ρ s w s' → FR ρ F a → OptR ρ F.round Fc.round → c.wpIn Fc 0 P (Post Γ ρ s w s' x F') a w := by
  induction c with
  | skip =>
    intro n F F' x s s' ρ a w h wf pre fr hr
    obtain ⟨he, rfl⟩ := Prod.mk.inj (pure_eq.1 h)
    obtain ⟨rfl, rfl⟩ := Prod.mk.inj he
    exact wpIn_skip ⟨rfl, ρ, fr, Stp.same pre.inv rfl⟩
  | region id ops draw =>
    intro n F F' x s s' ρ a w h wf pre fr hr
    have h : runRegion draw ops Γ call F s = some ((x, F'), s') := h
    cases draw with
    | false =>
      rw [runRegion_text, bind_eq] at h
      obtain ⟨T, s1, h1, h⟩ := h
      obtain ⟨he, rfl⟩ := Prod.mk.inj (pure_eq.1 h)
      obtain ⟨rfl, rfl⟩ := Prod.mk.inj he
      refine wpIn_region ?_
      have := runOps_ok (Q := Post Γ ρ s w s' .normal { F with T := T }) C K hF fr.lim ops.toList 0 F.T T s s' ρ a w (fun j => by simp) h1 wf pre fr.tr fr.size fun a' w' ρ' q1 q2 q3 q4 =>
        ⟨rfl, ρ', ⟨q1, q2, fr.lim, by rw [q3]; exact fr.marks.mono q4.ext⟩, q4⟩
      rw [List.range_eq_range']
      simpa using this
    | true =>
      cases hd : dstsOk ops.toList 0 && regionOk ops (numbered ops) [] with
      | false => rw [runRegion_not _ _ _ hd] at h; simp [EM.fail] at h
      | true =>
        rw [runRegion_draw _ _ _ hd, bind_eq] at h
        obtain ⟨T, s1, h1, h⟩ := h
        obtain ⟨he, rfl⟩ := Prod.mk.inj (pure_eq.1 h)
        obtain ⟨rfl, rfl⟩ := Prod.mk.inj he
        rw [Bool.and_eq_true] at hd
        refine wpIn_region_draw fun t => ?_
        have stD : Stp Γ ρ s w ρ s { w with drawn := w.drawn + 1 } := Stp.drew pre.inv _
        have preD := pre.split stD (Nat.le_refl _)
        have up := (Loc.runDraw K.loc F.size ops (numbered ops) [] F.T).up _ _ _ h1
        exact D K hF fr.lim hd.1 hd.2 h1 wf preD fr.tr fr.size (fun a' w' ρ' q1 q2 q3 q4 =>
          ⟨rfl, ρ', ⟨q1, q2, fr.lim, by rw [q3]; exact fr.marks.mono q4.ext⟩, stD.trans q4 (Nat.le_refl _) up⟩) t
  | seq p q ihp ihq =>
    intro n F F' x s s' ρ a w h wf pre fr hr
    obtain ⟨⟨y, F1⟩, s1, h1, h⟩ := bind_eq.1 (show EM.bind (runCode p Γ call n F) (andThen fun F' => runCode q Γ call n F') s = some ((x, F'), s') from h)
    have hl := Loc.runCode (Γ := Γ) K.loc p n F
    have n1 := hl.up _ _ _ h1
    have wf1 := (hl.at_ _ _ _ wf h1).wf
    have sm := runCode_same p h1
    refine wpIn_seq ?_
    rcases andThen_eq h with ⟨hy, h⟩ | ⟨hy, he, rfl⟩
    · dsimp only at hy h; subst hy
      have n2 := (Loc.runCode (Γ := Γ) K.loc q n F1).up _ _ _ h
      refine wpIn_mono (ihp h1 wf (pre.cut n2) fr hr) ?_
      rintro e a1 w1 ⟨rfl, ρ1, fr1, st1⟩
      refine wpIn_mono (ihq h wf1 (pre.split st1 n1) fr1 (by rw [sm.1]; exact hr.mono st1.ext)) fun e a' w' hp => hp.after st1 n1 n2
    · obtain ⟨rfl, rfl⟩ := Prod.mk.inj he
      refine wpIn_mono (ihp h1 wf pre fr hr) ?_
      rintro e a1 w1 ⟨rfl, hp⟩
      cases x with
      | normal => exact absurd rfl hy
      | ret => exact ⟨rfl, hp⟩
      | exit id => exact ⟨rfl, hp⟩
  | cond c p q ihp ihq =>
    intro n F F' x s s' ρ a w h wf pre fr hr
    obtain ⟨v, hv, h⟩ := have_eq.1 (show EM.have (look c F.T) _ s = some ((x, F'), s') from h)
    obtain ⟨b, hb, h⟩ := have_eq.1 h
    have hvr := lookV hv fr.tr
    cases v <;> simp only [boolOf] at hb <;> try (cases hb; done)
    rename_i b0
    obtain rfl := Option.some.inj hb
    have hc : a.eval c = .bool b0 := by
      generalize a.eval c = c' at hvr ⊢
      cases hvr; rfl
    cases b0
    · exact wpIn_cond_false hc (ihq h wf pre fr hr)
    · exact wpIn_cond_true hc (ihp h wf pre fr hr)
  | block id c ih =>
    intro n F F' x s s' ρ a w h wf pre fr hr
    obtain ⟨⟨y, F1⟩, s1, h1, h⟩ := bind_eq.1 (show EM.bind (runCode c Γ call n F) (outOf id) s = some ((x, F'), s') from h)
    obtain ⟨rfl, hF', hx⟩ := outOf_eq h
    dsimp only at hF' hx
    subst hF'
    refine wpIn_block (wpIn_mono (ih h1 wf pre fr hr) ?_)
    rintro e a1 w1 ⟨rfl, hp⟩
    rcases hx with ⟨rfl, rfl⟩ | ⟨hne, rfl⟩
    · simp only [exOf, Exit.inBlock, if_true]; exact ⟨rfl, hp⟩
    · cases x with
      | normal => exact ⟨rfl, hp⟩
      | ret => exact ⟨rfl, hp⟩
      | exit i =>
        have : ¬ i = id := fun e => hne (by rw [e])
        simp only [exOf, Exit.inBlock, if_neg this]; exact ⟨rfl, hp⟩
  | loop c ih =>
    intro n F F' x s s' ρ a w h wf pre fr hr
    have h : runLoop (fun F' => runCode c Γ call n F') n F s = some ((x, F'), s') := h
    refine wpIn_loop_fuel (fun k a1 w1 => ∃ F1 s1 ρ1, runLoop (fun F' => runCode c Γ call n F') k F1 s1 = some ((x, F'), s') ∧ WF s1 ∧ Pre Γ ρ1 s1 w1 s' ∧ FR ρ1 F1 a1 ∧ OptR ρ1 F1.round Fc.round ∧ Stp Γ ρ s w ρ1 s1 w1 ∧ s.nx ≤ s1.nx) ?_
      (j := n) ⟨F, s, ρ, h, wf, pre, fr, hr, Stp.same pre.inv rfl, Nat.le_refl _⟩
    rintro k a1 w1 ⟨F1, s1, ρ1, h1, wf1, pre1, fr1, hr1, st1, n1⟩
    cases k with
    | zero => rw [runLoop_zero] at h1; simp [EM.fail] at h1
    | succ k =>
      rw [runLoop_succ, bind_eq] at h1
      obtain ⟨⟨y, F2⟩, s2, h2, h3⟩ := h1
      have hl := Loc.runCode (Γ := Γ) K.loc c n F1
      have n2 := hl.up _ _ _ h2
      have wf2 := (hl.at_ _ _ _ wf1 h2).wf
      have sm := runCode_same c h2
      rcases andThen_eq h3 with ⟨hy, h3⟩ | ⟨hy, he, rfl⟩
      · dsimp only at hy h3; subst hy
        have n3 := (Loc.runLoop (fun F' => Loc.runCode (Γ := Γ) K.loc c n F') k F2).up _ _ _ h3
        refine wpIn_mono (ih h2 wf1 (pre1.cut n3) fr1 hr1) ?_
        rintro e a2 w2 ⟨rfl, ρ2, fr2, st2⟩
        exact ⟨k, Nat.lt_succ_self _, F2, s2, ρ2, h3, wf2, pre1.split st2 n2, fr2, by rw [sm.1]; exact hr1.mono st2.ext, st1.trans st2 n1 n2, by omega⟩
      · obtain ⟨rfl, rfl⟩ := Prod.mk.inj he
        refine wpIn_mono (ih h2 wf1 pre1 fr1 hr1) ?_
        rintro e a2 w2 ⟨rfl, ρ2, fr2, st2⟩
        have hp : Post Γ ρ s w s' x F' (exOf x) a2 w2 := ⟨rfl, ρ2, fr2, st1.trans st2 n1 n2⟩
        cases x with
        | normal => exact absurd rfl hy
        | ret => exact hp
        | exit id => exact hp
  | rangeFunc f ps p q _ _ =>
    intro n F F' x s s' ρ a w h wf pre fr hr
    exact rangeFunc_ok K hF (show runRange f ps p q call F s = some ((x, F'), s') from h) wf pre fr hr
  | exit id =>
    intro n F F' x s s' ρ a w h wf pre fr hr
    obtain ⟨he, rfl⟩ := Prod.mk.inj (pure_eq.1 h)
    obtain ⟨rfl, rfl⟩ := Prod.mk.inj he
    exact wpIn_exit ⟨rfl, ρ, fr, Stp.same pre.inv rfl⟩
  | scope c ih =>
    intro n F F' x s s' ρ a w h wf pre fr hr
    refine wpIn_scope (fun l a w hq => ?_) (ih h wf pre fr hr)
    have := hq.1
    cases x <;> simp [exOf] at this
  | label l =>
    intro n F F' x s s' ρ a w h wf pre fr hr
    obtain ⟨he, rfl⟩ := Prod.mk.inj (pure_eq.1 h)
    obtain ⟨rfl, rfl⟩ := Prod.mk.inj he
    exact wpIn_label ⟨rfl, ρ, fr, Stp.same pre.inv rfl⟩
  | goto l => intro n F F' x s s' ρ a w h; simp only [show runCode (.goto l) Γ call n F = EM.fail from rfl, EM.fail] at h; cases h
  | ret =>
    intro n F F' x s s' ρ a w h wf pre fr hr
    obtain ⟨he, rfl⟩ := Prod.mk.inj (pure_eq.1 h)
    obtain ⟨rfl, rfl⟩ := Prod.mk.inj he
    exact wpIn_ret ⟨rfl, ρ, fr, Stp.same pre.inv rfl⟩
  | refuse r => intro n F F' x s s' ρ a w h; simp only [show runCode (.refuse r) Γ call n F = EM.fail from rfl, EM.fail] at h; cases h

end code
end Go.Ideal

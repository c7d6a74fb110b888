/-
  Calls by a function's text, and rounds. Conditions: none.
-/
import Derived.Test.YtpoaiachllclhaaGreatDoorCode2
namespace Go.Ideal
open Go

section body
variable {P : Program} {Γ : Cx} {F : Fence}

theorem bindArgs_get : ∀ (as : List Value) (i : Nat) (T : Env) (t : Nat), i + as.length ≤ 100000 → (bindArgs as i T).get t = if i ≤ t ∧ t < i + as.length then as[t - i]? else T.get t := by
  intro as
  induction as with
  | nil => intro i T t _; simp only [bindArgs, List.length_nil]; rw [if_neg (by omega)]
  | cons v l ih =>
    intro i T t h
    simp only [List.length_cons] at h
    simp only [bindArgs]
    rw [ih (i + 1) _ t (by omega), Tr.get_set _ _ _ _ (by omega)]
    by_cases h1 : i + 1 ≤ t ∧ t < i + 1 + l.length
    · rw [if_pos h1, if_pos (by simp only [List.length_cons]; omega), show t - i = (t - (i + 1)) + 1 by omega]; simp
    · rw [if_neg h1]
      by_cases h2 : t = i
      · subst h2; rw [if_pos rfl, if_pos (by simp only [List.length_cons]; omega)]; simp
      · rw [if_neg h2, if_neg (by simp only [List.length_cons]; omega)]

theorem marks_ok {fn : Func} {tmps : Array Value} {R : Ending → World → Prop} : ∀ (ms : List Nat) (ds : List Deferred) (s s' : HS) (ρ : Rho) (w : World), checkMarks ms s = some ((), s') → Inv Γ ρ s.h w → MR ρ ms ds →
    s'.nx = s.nx ∧ ((∀ w', Stp Γ ρ s w ρ s' w' → LeavesInM F 0 P fn tmps R [] .returning w') → LeavesInM F 0 P fn tmps R ds .returning w) := by
  intro ms
  induction ms with
  | nil =>
    intro ds s s' ρ w h inv hm
    simp only [checkMarks, pure_eq, Prod.mk.injEq, true_and] at h
    subst h
    have : ds = [] := by have := hm.1; simp at this; exact List.eq_nil_of_length_eq_zero this.symm
    subst this
    exact ⟨rfl, fun hh => hh w (Stp.same inv rfl)⟩
  | cons m ms ih =>
    intro ds s s' ρ w h inv hm
    cases ds with
    | nil => have := hm.1; simp at this
    | cons d ds =>
      simp only [checkMarks, bind_eq, need_eq] at h
      obtain ⟨o, s1, h1, hmk, u, s2, h2, h3⟩ := h
      obtain ⟨y, g1, rfl, e1, n1⟩ := hget_spec h1
      cases y <;> simp only [strip, isMark] at hmk <;> try (cases hmk; done)
      obtain ⟨z, d1, d2, d3, d4, d5⟩ := hset_spec h2
      rw [e1] at d1 d4
      obtain ⟨rb, p1, p2⟩ := hm.2 0 m d rfl rfl
      obtain ⟨b1, b2⟩ := inv.obj _ _ rb g1 p1
      have st : Stp Γ ρ s w ρ s2 (w.putObj rb.blk (.deferred none)) := Stp.put (x' := .dead) (inv.lim _ _ p1) inv g1 rfl p1 b2 d4 trivial
      obtain ⟨i1, i2⟩ := ih ds s2 s' ρ _ h3 st.inv ⟨by simpa using hm.1, fun j m' d' hj hd => hm.2 (j + 1) m' d' (by simpa using hj) (by simpa using hd)⟩
      refine ⟨by rw [i1, d5, n1], fun hh => ⟨by simp, .inl ⟨rb.blk, _, p2, run_takeDeferred b1, i2 fun w' st' => hh w' (st.trans st' (by omega) (by omega))⟩⟩⟩

theorem readResult_ok (C : CxOk P Γ) {T : Env} {tmps : Array Value} {r : ResultVar} {v : Value} {s s' : HS} {ρ : Rho} {w : World} (h : readResult Γ T r s = some (v, s')) (inv : Inv Γ ρ s.h w) (tr : TR ρ T tmps) :
    s'.h = s.h ∧ s'.nx = s.nx ∧ ∃ v', (match r with | .tmp t => (pure (tmps.getD t undef) : Sem Value) | .cell a t => do loadVar t (← asAddr (tmps.getD a undef))).run P w = .ok v' w ∧ VR ρ v v' := by
  cases r with
  | tmp t =>
    simp only [readResult, lift_eq, Prod.mk.injEq] at h
    obtain ⟨u, hu, rfl, rfl⟩ := h
    obtain ⟨v', h1, h2⟩ := tr t _ hu
    exact ⟨rfl, rfl, v', by simp [Array.getD_eq_getD_getElem?, h1], h2⟩
  | cell a t =>
    simp only [readResult, have_eq] at h
    obtain ⟨u, hu, ad, had, h⟩ := h
    obtain rfl := addrOf_eq had
    obtain ⟨u', h1, h2⟩ := tr a _ hu
    obtain ⟨b, o, sp⟩ := ad
    cases h2 with
    | ptr b o rb p1 p2 =>
      obtain ⟨v', r1, r2, r3, r4⟩ := loadV_ok C h inv p1 p2
      refine ⟨r3, r4, v', ?_, r2⟩
      have : tmps.getD a undef = .pointer (some ⟨rb.blk, rb.off + o, none⟩) := by simp [Array.getD_eq_getD_getElem?, h1]
      simp only [this, asAddr, Sem.run_bind, Sem.run_pure, Result.andThen_ok]
      exact r1

theorem readResults_ok (C : CxOk P Γ) {T : Env} {tmps : Array Value} {ρ : Rho} {w : World} (tr : TR ρ T tmps) : ∀ (l : List ResultVar) (vs : List Value) (s s' : HS), readResults Γ T l s = some (vs, s') → Inv Γ ρ s.h w →
    s'.h = s.h ∧ s'.nx = s.nx ∧ ∃ vs', (l.mapM fun r : ResultVar => (match r with | .tmp t => (pure (tmps.getD t undef) : Sem Value) | .cell a t => do loadVar t (← asAddr (tmps.getD a undef)))).run P w = .ok vs' w ∧ VRs ρ vs vs' := by
  intro l
  induction l with
  | nil =>
    intro vs s s' h inv
    simp only [readResults, pure_eq, Prod.mk.injEq] at h
    obtain ⟨rfl, rfl⟩ := h
    exact ⟨rfl, rfl, [], rfl, VRs.nil ρ⟩
  | cons r l ih =>
    intro vs s s' h inv
    simp only [readResults, bind_eq, pure_eq, Prod.mk.injEq] at h
    obtain ⟨v, s1, h1, us, s2, h2, rfl, rfl⟩ := h
    obtain ⟨e1, n1, v', r1, q1⟩ := readResult_ok C h1 inv tr
    obtain ⟨e2, n2, us', r2, q2⟩ := ih us s1 s' h2 (by rw [e1]; exact inv)
    refine ⟨by rw [e2, e1], by rw [n2, n1], v' :: us', ?_, VRs.cons q1 q2⟩
    rw [List.mapM_cons]
    simp only [Sem.run_bind, r1, Result.andThen_ok, r2, Sem.run_pure]

theorem results_ok (C : CxOk P Γ) {fn : Func} {T : Env} {tmps : Array Value} {ρ : Rho} {w : World} {vs : List Value} {s s' : HS} (h : readResults Γ T fn.results.toList s = some (vs, s')) (inv : Inv Γ ρ s.h w) (tr : TR ρ T tmps) :
    s'.h = s.h ∧ s'.nx = s.nx ∧ ∃ v', (results fn tmps).run P w = .ok v' w ∧ VR ρ (packed vs) v' := by
  obtain ⟨e1, n1, vs', r1, q1⟩ := readResults_ok C tr _ _ _ _ h inv
  refine ⟨e1, n1, ?_⟩
  have hrun : (results fn tmps).run P w = .ok (if h : vs'.toArray.size = 1 then vs'.toArray[0] else .tuple vs'.toArray) w := by
    unfold results
    rw [Array.mapM_eq_mapM_toList]
    simp only [Sem.run_bind, Sem.run_map, Sem.run_pure]
    exact congrArg (fun r : Result (List Value) => (r.andThen fun a w' => Result.ok a.toArray w').andThen fun a w' => Result.ok (if h : a.size = 1 then a[0] else Value.tuple a) w') r1
  refine ⟨_, hrun, ?_⟩
  cases vs with
  | nil =>
    obtain rfl := q1.nil_ex
    exact VR.tup' (VRs.nil ρ)
  | cons v l =>
    obtain ⟨v', r', rfl, hv, hr⟩ := q1.ex
    cases l with
    | nil => obtain rfl := hr.nil_ex; simpa [packed] using hv
    | cons u l =>
      obtain ⟨u', r2, rfl, hu, hr⟩ := hr.ex
      have : ¬ (v' :: u' :: r2).toArray.size = 1 := by simp
      rw [dif_neg this]
      exact VR.tup' (VRs.cons hv (VRs.cons hu hr))

theorem callBody_ok (C : CxOk P Γ) {call : CallF} (K : CallOk P Γ call) (D : DrawOk P Γ) (hF : Wide F) {rounds f : Nat} {as as' : List Value} {fn : Func} {v : Value} {s s' : HS} {ρ : Rho} {w : World}
    (h : callBody Γ call rounds f as fn s = some (v, s')) (hf : P.funcs[f]? = some fn) (wf : WF s) (pre : Pre Γ ρ s w s') (ha : VRs ρ as as') : CallsIn F 0 P f as'.toArray w (Res Γ ρ s w v s') := by
  simp only [callBody, have_eq, need_eq, bind_eq, Bool.and_eq_true] at h
  obtain ⟨c, hc, ⟨hle, hlim⟩, ⟨x, F1⟩, s1, h1, h⟩ := h
  have hle := Nat.le_of_ble_eq_true hle
  have hlim := Nat.le_of_ble_eq_true hlim
  have hl := Loc.runCode (Γ := Γ) K.loc c rounds { T := bindArgs as 0 .e, ms := [], fn := f, size := fn.ntmps, round := none }
  have n1 := hl.up _ _ _ h1
  have hx : x = .normal ∨ x = .ret := by
    cases x with
    | normal => exact .inl rfl
    | ret => exact .inr rfl
    | exit i => simp [EM.fail] at h
  have h : EM.bind (checkMarks F1.ms) (fun _ => EM.bind (readResults Γ F1.T fn.results.toList) fun vs => EM.pure (packed vs)) s1 = some (v, s') := by rcases hx with rfl | rfl <;> exact h
  simp only [bind_eq, pure_eq, Prod.mk.injEq] at h
  obtain ⟨u, s2, h2, vs, s3, h3, rfl, rfl⟩ := h
  have n2 := (Loc.checkMarks F1.ms).up _ _ _ h2
  have n3 := (Loc.readResults (Γ := Γ) F1.T fn.results.toList).up _ _ _ h3
  have hFp : Wide F.plain := ⟨hF.fn, hF.depth, hF.alive⟩
  have hal := ha.1
  have fr0 : FR ρ { T := bindArgs as 0 .e, ms := [], fn := f, size := fn.ntmps, round := none } { tmps := as'.toArray ++ Array.replicate (fn.ntmps - as'.toArray.size) undef, defers := [] } := by
    refine ⟨fun t u hu => ?_, ?_, hlim, ⟨rfl, fun j m d hj => by simp at hj⟩⟩
    · rw [bindArgs_get as 0 .e t (by omega)] at hu
      by_cases ht : 0 ≤ t ∧ t < 0 + as.length
      · rw [if_pos ht] at hu
        obtain ⟨v', a1, a2⟩ := ha.get (j := t) (by simpa using hu)
        refine ⟨v', ?_, a2⟩
        rw [Array.getElem?_append, if_pos (by rw [List.size_toArray]; omega), List.getElem?_toArray]; exact a1
      · rw [if_neg ht, Tr.get_e] at hu; cases hu
    · simp; omega
  have key : CallsIn F.plain 0 P f as'.toArray w (Res Γ ρ s w (packed vs) s') := by
    refine callsIn_of_wp_marks hf hc (hF.fn f) (wpIn_mono (code_ok C K D hFp c h1 wf (pre.cut (by omega)) fr0 trivial) ?_) rfl
    rintro e a1 w1 ⟨rfl, ρ1, fr1, st1⟩
    have fin : LeavesInM F.plain 0 P fn a1.tmps (Res Γ ρ s w (packed vs) s') a1.defers .returning w1 := by
      obtain ⟨m1, m2⟩ := marks_ok (F := F.plain) (P := P) (fn := fn) (tmps := a1.tmps) (R := Res Γ ρ s w (packed vs) s') F1.ms a1.defers s1 s2 ρ1 w1 h2 st1.inv fr1.marks
      refine m2 fun w2 st2 => ?_
      obtain ⟨e3, n3', v', r1, r2⟩ := results_ok C h3 st2.inv fr1.tr
      have st3 : Stp Γ ρ1 s2 w2 ρ1 s' w2 := Stp.same st2.inv e3
      exact ⟨v', r1, v', ρ1, rfl, r2, st1.trans (st2.trans st3 n2 n3) n1 (by omega)⟩
    rcases hx with rfl | rfl
    · exact fin
    · exact fin
  exact key

theorem bindParams_ok {ρ : Rho} {size : Nat} (hl : size ≤ 100000) : ∀ (ps : List Nat) (vs vs' : List Value) (T T1 : Env) (tmps : Array Value), bindParams size ps vs T = some T1 → VRs ρ vs vs' → TR ρ T tmps → tmps.size = size →
    vs'.length = ps.length ∧ TR ρ T1 ((ps.zip vs').foldl (fun tmps (p : Nat × Value) => tmps.setIfInBounds p.1 p.2) tmps) ∧ ((ps.zip vs').foldl (fun tmps (p : Nat × Value) => tmps.setIfInBounds p.1 p.2) tmps).size = size := by
  intro ps
  induction ps with
  | nil =>
    intro vs vs' T T1 tmps h hv tr hs
    cases vs with
    | nil =>
      obtain rfl := hv.nil_ex
      simp only [bindParams] at h
      obtain rfl := Option.some.inj h
      exact ⟨rfl, tr, hs⟩
    | cons v l => simp [bindParams] at h
  | cons p ps ih =>
    intro vs vs' T T1 tmps h hv tr hs
    cases vs with
    | nil => simp [bindParams] at h
    | cons v l =>
      obtain ⟨v', r', rfl, hv1, hv2⟩ := hv.ex
      simp only [bindParams, Opt.go_eq] at h
      obtain ⟨T', hp, h⟩ := h
      obtain ⟨t1, t2, -⟩ := put_ok (a := { tmps := tmps, defers := [] }) hp tr hs hl hv1
      obtain ⟨i1, i2, i3⟩ := ih l r' T' T1 _ h hv2 t1 t2
      refine ⟨by simp [i1], ?_, ?_⟩
      · simpa [Act.put] using i2
      · simpa [Act.put] using i3

theorem callRound_ok (C : CxOk P Γ) {call : CallF} (K : CallOk P Γ call) (D : DrawOk P Γ) (hF : Wide F) {rounds l : Nat} {as as' : List Value} {v : Value} {s s' : HS} {ρ : Rho} {w : World} {rb : RB}
    (h : callRound Γ call rounds l as s = some (v, s')) (wf : WF s) (pre : Pre Γ ρ s w s') (ha : VRs ρ as as') (hl : ρ l = some rb) : Upon P Γ F ρ s w v s' ((Instr.yield rb.blk as'.toArray).run P w) := by
  simp only [callRound, bind_eq] at h
  obtain ⟨o, s1, h1, h⟩ := h
  have wf1 := ((Loc.hget l).at_ _ _ _ wf h1).wf
  obtain ⟨y, g1, rfl, e1, n1⟩ := hget_spec h1
  cases y <;> dsimp only [strip] at h <;> try (simp [EM.fail] at h; done)
  rename_i st pend fn T size ps as0 bd mk
  simp only [need_eq, have_eq, bind_eq, Bool.and_eq_true] at h
  obtain ⟨hsz, T1, hT1, ⟨x1, F1⟩, s2, h2, ⟨hx1, hst⟩, o2, s3, h3, h⟩ := h
  have hsz := Nat.le_of_ble_eq_true hsz
  have hx1 : x1 = .normal := by cases x1 <;> simp [isNormal] at hx1 ⊢
  subst hx1
  have lc1 := Loc.runCode (Γ := Γ) K.loc as0 rounds { T := T1, ms := [], fn, size, round := some l }
  have n2 := lc1.up _ _ _ h2
  have wf2 := (lc1.at_ _ _ _ wf1 h2).wf
  have wf3 := ((Loc.hget l).at_ _ _ _ wf2 h3).wf
  obtain ⟨y2, g3, rfl, e3, n3⟩ := hget_spec h3
  cases y2 <;> dsimp only [strip] at h <;> try (simp [EM.fail] at h; done)
  rename_i st' pend' fn' T' size' ps' as0' bd' mk'
  simp only [need_eq, bind_eq] at h
  obtain ⟨hst', u, s4, h4, ⟨x2, F2⟩, s5, h5, h6⟩ := h
  have hst' := Nat.eq_of_beq_eq_true hst'
  subst hst'
  have lc4 := Loc.hset l (.loop 1 pend' fn' T' size' ps' as0' bd' mk')
  have n4 := lc4.up _ _ _ h4
  have wf4 := (lc4.at_ _ _ _ wf3 h4).wf
  have lc5 := Loc.runCode (Γ := Γ) K.loc bd rounds F1
  have n5 := lc5.up _ _ _ h5
  have n6 := (Loc.endRound l x2).up _ _ _ h6
  obtain ⟨lp, b1, b2, b3, b4, b5, b6, b7, b8, b9, b10, b11⟩ := pre.inv.obj _ _ rb g1 hl
  obtain ⟨p1, p2, p3⟩ := bindParams_ok hsz ps as as' T T1 lp.tmps hT1 ha b5 b6
  have hpsz : as'.toArray.size = lp.params.size := by rw [List.size_toArray, p1, ← b7]; simp
  rw [run_yield b1 hpsz]
  have e7 : ((lp.params.zip as'.toArray).foldl (fun tmps (t, a) => tmps.setIfInBounds t a) lp.tmps) = (ps.zip as').foldl (fun tmps (p : Nat × Value) => tmps.setIfInBounds p.1 p.2) lp.tmps := by
    rw [← b7, ← Array.foldl_toList, Array.toList_zip]
  rw [e7, b8, b9]
  show RoundIn F 0 P rb.blk lp.fn _ as0 bd w (Res Γ ρ s w v s')
  have inv1 : Inv Γ ρ s1.h w := by rw [e1]; exact pre.inv
  have pre1 : Pre Γ ρ s1 w s' := ⟨inv1, fun i hi hi' => pre.free i (by omega) hi', by rw [e1]; exact pre.fix⟩
  have st01 : Stp Γ ρ s w ρ s1 w := Stp.same pre.inv e1
  refine roundIn_of_wpIn (hF.fn _) ?_
  refine wpIn_mono (code_ok C K D (hF.inRound rb.blk) as0 h2 wf1 (pre1.cut (by omega)) (a := { tmps := _, defers := [] }) ⟨p2, p3, hsz, ⟨rfl, fun j m d hj => by simp at hj⟩⟩ ⟨rb, hl, rfl⟩) ?_
  rintro e a1 w1 ⟨rfl, ρ1, fr1, st1⟩
  -- the round begins
  have hl1 := st1.ext.get _ _ hl
  have sm1 := runCode_same _ h2
  obtain ⟨lp1, c1, c2, c3, c4, c5, c6, c7, c8, c9, c10, c11⟩ := st1.inv.obj _ _ rb g3 hl1
  obtain ⟨z, d1, d2, d3, d4, d5⟩ := hset_spec h4
  rw [e3] at d1 d4
  have hblt : rb.blk < w1.heap.size := (Array.getElem?_eq_some_iff.1 c1).1
  have stB : Stp Γ ρ1 s2 w1 ρ1 s4 (w1.putObj rb.blk (.loop { lp1 with state := .busy })) :=
    Stp.put (x' := .loop 1 pend' fn' T' size' ps' as0' bd' mk') (st1.inv.lim _ _ hl1) st1.inv g3 rfl hl1 c11 d4 ⟨{ lp1 with state := .busy }, by rw [heap_set hblt, if_pos rfl], rfl, c3, trivial, c5, c6, c7, c8, c9, c10, c11⟩
  refine ⟨_, run_beginRound c1 c2, ?_⟩
  have pre4 : Pre Γ ρ1 s4 (w1.putObj rb.blk (.loop { lp1 with state := .busy })) s' := (pre1.split st1 n2).split stB (by omega)
  refine wpIn_mono (code_ok C K D (hF.inRound rb.blk) bd h5 wf4 (pre4.cut n6) fr1 (by rw [sm1.1]; exact ⟨rb, hl1, rfl⟩)) ?_
  rintro e a2 w2 ⟨rfl, ρ2, fr2, st2⟩
  have hl2 := st2.ext.get _ _ hl1
  -- the round ends
  simp only [endRound, bind_eq] at h6
  obtain ⟨o6, s6, h6, h7⟩ := h6
  obtain ⟨y6, g6, rfl, e6, n6'⟩ := hget_spec h6
  cases y6 <;> dsimp only [strip] at h7 <;> try (simp [EM.fail] at h7; done)
  rename_i st6 pend6 fn6 T6 size6 ps6 as6 bd6 mk6
  obtain ⟨lp2, k1, k2, k3, k4, k5, k6, k7, k8, k9, k10, k11⟩ := st2.inv.obj _ _ rb g6 hl2
  have hblt2 : rb.blk < w2.heap.size := (Array.getElem?_eq_some_iff.1 k1).1
  have sAll : Stp Γ ρ s w ρ2 s5 w2 := st01.trans (st1.trans (stB.trans st2 (by omega) n5) n2 (by omega)) (by omega) (by omega)
  have fin : ∀ (jump : Option Code) (n : Nat) (b : Bool) (s7 : HS), hset l (.loop n jump fn6 T6 size6 ps6 as6 bd6 mk6) s6 = some ((), s7) → stateOf n = (if jump.isNone then LoopState.ready else .done) → b = jump.isNone → v = .bool b → s' = s7 →
      ∃ v' w', (Instr.endRound rb.blk jump).run P w2 = .ok v' w' ∧ Res Γ ρ s w v s' (.returned v') w' := by
    intro jump n b s7 hs7 hn hb hv hs'
    subst hv hs' hb
    obtain ⟨z7, f1, f2, f3, f4, f5⟩ := hset_spec hs7
    rw [e6] at f1 f4
    have stE : Stp Γ ρ2 s5 w2 ρ2 s' (w2.putObj rb.blk (.loop { lp2 with state := if jump.isNone then .ready else .done, pending := jump })) :=
      Stp.put (x' := .loop n jump fn6 T6 size6 ps6 as6 bd6 mk6) (st2.inv.lim _ _ hl2) st2.inv g6 rfl hl2 k11 f4 ⟨{ lp2 with state := if jump.isNone then .ready else .done, pending := jump }, by rw [heap_set hblt2, if_pos rfl], hn.symm, rfl, trivial, k5, k6, k7, k8, k9, k10, k11⟩
    exact ⟨_, _, run_endRound jump k1, _, ρ2, rfl, .bool _, sAll.trans stE (by omega) (by omega)⟩
  cases x2 with
  | normal =>
    simp only [bind_eq, pure_eq, Prod.mk.injEq] at h7
    obtain ⟨u7, s7, h7, hv, hs⟩ := h7
    exact fin none 0 true s7 h7 rfl rfl hv hs
  | ret =>
    simp only [bind_eq, pure_eq, Prod.mk.injEq, exCode] at h7
    obtain ⟨u7, s7, h7, hv, hs⟩ := h7
    exact fin (some .ret) 2 false s7 h7 rfl rfl hv hs
  | exit id =>
    simp only [bind_eq, pure_eq, Prod.mk.injEq, exCode] at h7
    obtain ⟨u7, s7, h7, hv, hs⟩ := h7
    exact fin (some (.exit id)) 2 false s7 h7 rfl rfl hv hs

/-! ### Calls, by fuel -/
/-- a function that is not run by its text -/
def ExtOk (P : Program) (Γ : Cx) : Prop := ∀ {f e}, Γ.ext f = some e → ∀ {as as' v s s' ρ w}, extV e Γ as s = some (v, s') → WF s → Pre Γ ρ s w s' → VRs ρ as as' → ∀ F, Wide F → Upon P Γ F ρ s w v s' ((callFunc f as'.toArray).run P w)

theorem extV_noFn {e : Ext} {as : List Value} {l : Nat} {s : HS} {r : Value × HS} (hm : Value.func (.yield l) #[] #[] ∈ as) (h : extV e Γ as s = some r) : False := by
  have two : ∀ {a b : Value}, Value.func (.yield l) #[] #[] ∈ [a, b] → a = .func (.yield l) #[] #[] ∨ b = .func (.yield l) #[] #[] := fun h => by
    rcases List.mem_cons.1 h with h | h
    · exact .inl h.symm
    · rcases List.mem_cons.1 h with h | h
      · exact .inr h.symm
      · cases h
  cases e with
  | pure F =>
    simp only [extV, need_eq] at h
    have := List.all_eq_true.1 h.1 _ hm
    cases this
  | peek B G =>
    simp only [extV, need_eq] at h
    have := List.all_eq_true.1 h.1 _ hm
    cases this
  | put n =>
    simp only [extV] at h
    split at h <;> (try (simp [EM.fail] at h; done))
    rcases two hm with h' | h' <;> cases h'
  | drain n t =>
    simp only [extV] at h
    split at h <;> (try (simp [EM.fail] at h; done))
    rcases List.mem_cons.1 hm with h' | h' <;> cases h'
  | indexByte | countByte | fields | split =>
    simp only [extV] at h
    split at h <;> (try (simp [EM.fail] at h; done)) <;> simp only [have_eq, need_eq] at h
    first
      | (obtain ⟨x, hx, c, hc, h⟩ := h
         rcases two hm with rfl | rfl
         · cases hx
         · cases hc)
      | (obtain ⟨x, hx, h⟩ := h
         rcases List.mem_cons.1 hm with h' | h'
         · subst h'; cases hx
         · cases h')

theorem callF_ok (C : CxOk P Γ) (D : DrawOk P Γ) (E : ExtOk P Γ) (hn : ∀ (f : Nat) (fn : Func), P.funcs[f]? = some fn → (fn.name == "runtime.NumGoroutine") = false) (rounds : Nat) : ∀ k, CallOk P Γ (callF Γ rounds k) := by
  intro k
  induction k with
  | zero =>
    refine ⟨Loc.callF rounds 0, fun _ h => ?_, fun _ _ h => ?_, fun _ h => ?_, fun h => ?_⟩ <;> (rw [callF_zero] at h; simp [EM.fail] at h)
  | succ k K =>
    refine ⟨Loc.callF rounds (k + 1), fun he h wf pre ha F hF => ?_, fun he hm h => ?_, fun {f as as' v s s' ρ w} he h wf pre ha => ?_, fun h wf pre ha hl F hF => ?_⟩
    · rw [callF_ext rounds k _ _ he] at h; exact E he h wf pre ha F hF
    · rw [callF_ext rounds k _ _ he] at h; exact extV_noFn hm h
    · rw [callF_fn rounds k _ _ he, have_eq] at h
      obtain ⟨fn, hfn, h⟩ := h
      have hf := C.fn _ _ hfn
      have hbody : fn.body.isNone = false := by
        simp only [callBody, have_eq] at h
        obtain ⟨c, hc, -⟩ := h
        rw [hc]; rfl
      refine ⟨⟨w, ?_, rfl⟩, fun F hF => callBody_ok C K D hF h hf wf pre ha⟩
      simp only [callFunc, Sem.run_bind, run_program, Result.andThen_ok, hf, hn f fn hf, hbody, Bool.false_eq_true, if_false, Sem.run_pure]
    · rw [callF_round] at h; exact callRound_ok C K D hF h wf pre ha hl

end body
end Go.Ideal

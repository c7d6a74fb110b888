/-
  What an operation does in the ideal heap, it does in the world: operations that may call. Conditions: none.
-/
import Derived.Test.YtpoaiachllclhaaGreatDoorOps12
import Derived.CallsIn
import Derived.RangeFuncCalls
namespace Go.Ideal
open Go

/-- every function is let in, and any depth -/
structure Wide (F : Fence) : Prop where
  fn : ∀ f, F.fn f
  depth : F.depth = none
  alive : F.alive = false

theorem Wide.room {F : Fence} (h : Wide F) (n : Nat) : F.room n := fun d hd => by rw [h.depth] at hd; cases hd
theorem wide_wide : Wide Fence.wide := ⟨fun _ => trivial, rfl, rfl⟩
theorem Wide.inRound {F : Fence} (h : Wide F) (l : Nat) : Wide (F.inRound l) := ⟨h.fn, h.depth, h.alive⟩

theorem Wide.eq {F : Fence} (h : Wide F) : F = { Fence.wide with round := F.round } := by
  obtain ⟨fn, depth, alive, round⟩ := F
  obtain ⟨h1, h2, h3⟩ := h
  simp only at h1 h2 h3
  subst h2 h3
  have : fn = fun _ => True := funext fun f => propext ⟨fun _ => trivial, fun _ => h1 f⟩
  subst this
  rfl

/-- a contract under the wide fence is one under any that is wide -/
theorem Wide.calls {F : Fence} (h : Wide F) {n : Nat} {P : Program} {f : FuncId} {args : Array Value} {w : World} {R : Ending → World → Prop} (hc : CallsIn Fence.wide n P f args w R) : CallsIn F n P f args w R := by
  rw [h.eq]; exact hc

section call
variable {P : Program} {Γ : Cx} {ρ : Rho} {s s' : HS} {w : World} {F : Fence}

/-- how a call ends -/
def Res (Γ : Cx) (ρ : Rho) (s : HS) (w : World) (v : Value) (s' : HS) : Ending → World → Prop := fun e w' => ∃ v' ρ', e = .returned v' ∧ VR ρ' v v' ∧ Stp Γ ρ s w ρ' s' w'

/-- what an operation leads to -/
def Upon (P : Program) (Γ : Cx) (F : Fence) (ρ : Rho) (s : HS) (w : World) (v : Value) (s' : HS) : Result Next → Prop
  | .ok (.value v') w' => ∃ ρ', VR ρ' v v' ∧ Stp Γ ρ s w ρ' s' w'
  | .ok .skip w' => ∃ ρ', VR ρ' v undef ∧ Stp Γ ρ s w ρ' s' w'
  | .ok (.enter f args) w1 => CallsIn F 0 P f args w1 (Res Γ ρ s w v s')
  | .ok (.round l f tmps a b) w1 => RoundIn F 0 P l f tmps a b w1 (Res Γ ρ s w v s')
  | _ => False

/-- The answers of a call. -/
structure CallOk (P : Program) (Γ : Cx) (call : CallF) : Prop where
  loc : ∀ b f as, Loc (call b f as)
  ext : ∀ {f e as as' v s s' ρ w}, Γ.ext f = some e → call true f as s = some (v, s') → WF s → Pre Γ ρ s w s' → VRs ρ as as' → ∀ F, Wide F → Upon P Γ F ρ s w v s' ((callFunc f as'.toArray).run P w)
  noFn : ∀ {f e l as s r}, Γ.ext f = some e → Value.func (.yield l) #[] #[] ∈ as → call true f as s = some r → False
  fn : ∀ {f as as' v s s' ρ w}, Γ.ext f = none → call true f as s = some (v, s') → WF s → Pre Γ ρ s w s' → VRs ρ as as' →
    (∃ w1, (callFunc f as'.toArray).run P w = .ok (.enter f as'.toArray) w1 ∧ w1 = w) ∧ ∀ F, Wide F → CallsIn F 0 P f as'.toArray w (Res Γ ρ s w v s')
  round : ∀ {l as as' v s s' ρ w rb}, call false l as s = some (v, s') → WF s → Pre Γ ρ s w s' → VRs ρ as as' → ρ l = some rb → ∀ F, Wide F → Upon P Γ F ρ s w v s' ((Instr.yield rb.blk as'.toArray).run P w)

theorem upon_inRound {l : Nat} {v : Value} {r : Result Next} (h : Upon P Γ F ρ s w v s' r) : Upon P Γ (F.inRound l) ρ s w v s' r := by
  unfold Upon at *
  split at h <;> exact h

theorem DoesO.upon {r : Sem Next} {v : Value} (h : DoesO P Γ ρ s w r v s') : Upon P Γ F ρ s w v s' (r.run P w) := by
  obtain ⟨n, v', w', ρ', h1, h2, h3, h4⟩ := h
  rw [h1]
  rcases h2 with rfl | ⟨rfl, rfl⟩
  · exact ⟨ρ', h3, h4⟩
  · exact ⟨ρ', h3, h4⟩

theorem callV_ok {call : CallF} (K : CallOk P Γ call) {x x' v : Value} {as as' : List Value} (h : callV call as x s = some (v, s')) (wf : WF s) (pre : Pre Γ ρ s w s') (hx : VR ρ x x') (ha : VRs ρ as as') (hF : Wide F) :
    ∃ d w1, (Deferred.ofValue x' as'.toArray).run P w = .ok d w1 ∧ w1 = w ∧ Upon P Γ F ρ s w v s' ((invoke d.target d.args).run P w) := by
  cases x <;> dsimp only [callV] at h <;> try (simp [EM.fail] at h; done)
  rename_i fn first captured
  cases fn <;> dsimp only at h <;> try (simp [EM.fail] at h; done)
  · rename_i g
    cases hx with
    | fn f l l' m m' h1 h2 h3 h4 =>
      have hargs : VRs ρ (l ++ as ++ m) (l' ++ as' ++ m') := VRs.append (VRs.append ⟨h1, h2⟩ ha) ⟨h3, h4⟩
      refine ⟨_, w, rfl, rfl, ?_⟩
      have e : (l'.toArray ++ as'.toArray ++ m'.toArray) = (l' ++ as' ++ m').toArray := by simp
      have hinv : (invoke (.fn (.func g) m'.toArray) (l'.toArray ++ as'.toArray)) = callFunc g (l' ++ as' ++ m').toArray := by
        show callFunc g (l'.toArray ++ as'.toArray ++ m'.toArray) = _
        rw [e]
      show Upon P Γ F ρ s w v s' ((invoke (.fn (.func g) m'.toArray) (l'.toArray ++ as'.toArray)).run P w)
      rw [hinv]
      have h' : call true g (l ++ as ++ m) s = some (v, s') := by simpa using h
      cases he : Γ.ext g with
      | some e => exact K.ext he h' wf pre hargs F hF
      | none =>
        obtain ⟨⟨w1, q1, q2⟩, q3⟩ := K.fn he h' wf pre hargs
        subst q2
        rw [q1]
        exact q3 F hF
  · rename_i lp
    cases hx with
    | yld l rb h1 =>
      refine ⟨_, w, rfl, rfl, ?_⟩
      have h' : call false lp as s = some (v, s') := by simpa using h
      have := K.round h' wf pre ha h1 F hF
      show Upon P Γ F ρ s w v s' ((Instr.yield rb.blk (#[] ++ as'.toArray)).run P w)
      simpa using this

theorem anyOp_ok (C : CxOk P Γ) {call : CallF} (K : CallOk P Γ call) {o : Oper} {T : Env} {a : Act} {v : Value} (h : anyOp o.op Γ call T s = some (v, s')) (wf : WF s) (pre : Pre Γ ρ s w s') (tr : TR ρ T a.tmps) (hF : Wide F) :
    Upon P Γ F ρ s w v s' ((o.semAt F.round a.eval).run P w) := by
  have hnd : ∀ c, o.op ≠ .defer c := fun c e => by rw [e] at h; simp [anyOp, plainOp, EM.fail] at h
  rw [Oper.semAt_eq _ _ _ hnd]
  cases ho : o.op with
  | call c =>
    rw [ho] at h
    simp only [anyOp, callOp] at h
    unfold execOp
    rw [ho]
    dsimp only
    have harg : ∀ as, args c.args.toList T = some as → VRs ρ as (c.args.map a.eval).toList := fun as hs => by
      have := argsV tr hs
      simpa using this
    cases hc : c.callee with
    | builtin b =>
      rw [hc] at h
      simp only [have_eq] at h
      obtain ⟨as, has, h⟩ := h
      have := builtinV_ok (tt := o.type) (cb := c.args.map fun | .const _ => true | _ => false) C h pre (harg as has)
      simp only [resolve, hc, Sem.run_bind, Sem.run_pure, Result.andThen_ok, invoke]
      have := this.o.upon (F := F)
      rw [show ((c.args.map a.eval).toList).toArray = c.args.map a.eval from Array.toArray_toList] at this
      exact this
    | invoke r n => rw [hc] at h; simp [EM.fail] at h
    | value f =>
      rw [hc] at h
      simp only [have_eq] at h
      obtain ⟨fv, hfv, as, has, h⟩ := h
      obtain ⟨d, w1, q1, q2, q3⟩ := callV_ok K h wf pre (lookV hfv tr) (harg as has) hF
      subst q2
      have e : ((c.args.map a.eval).toList).toArray = c.args.map a.eval := Array.toArray_toList
      rw [e] at q1
      simp only [resolve, hc, Sem.run_bind, q1, Result.andThen_ok]
      exact q3
  | _ =>
    refine (plainOp_ok C (v := v) ?_ pre tr).upon
    rw [ho] at h ⊢
    exact h

/-! ### From what an operation leads to, to the walk -/
theorem uponIn_of {o : Oper} {a : Act} {next : Act → World → Prop} {Q : Exit → Act → World → Prop} {v : Value} {r : Result Next} (hF : Wide F) (h : Upon P Γ F ρ s w v s' r)
    (hn : ∀ v' w' ρ', VR ρ' v v' → Stp Γ ρ s w ρ' s' w' → next (a.put o.dst v') w') : o.uponIn F 0 P a next Q r := by
  have hd : F.depth.isSome = true → 1 ≤ 0 := fun h => by rw [hF.depth] at h; cases h
  unfold Upon at h
  split at h
  · obtain ⟨ρ', h1, h2⟩ := h; exact hn _ _ _ h1 h2
  · obtain ⟨ρ', h1, h2⟩ := h; exact hn _ _ _ h1 h2
  · refine ⟨hd, CallsIn.mono h ?_⟩
    rintro e w' ⟨v', ρ', rfl, h1, h2⟩
    exact hn _ _ _ h1 h2
  · refine ⟨hd, RoundIn.mono h ?_⟩
    rintro e w' ⟨v', ρ', rfl, h1, h2⟩
    exact hn _ _ _ h1 h2
  · exact h.elim

theorem wants_ok {ops : Array Oper} {o : Oper} {T : Env} {tmps : Array Value} {b : Bool} (h : wants ops o.guard T = some b) (tr : TR ρ T tmps) : Region.wanted o (yielded ops tmps) = b := by
  unfold Region.wanted
  cases hg : o.guard with
  | none => rw [hg] at h; simp only [wants] at h; exact Option.some.inj h
  | some p =>
    rw [hg] at h
    simp only [wants, Opt.go_eq] at h
    obtain ⟨d, hd, v, hv, h⟩ := h
    obtain ⟨v', h1, h2⟩ := tr d v hv
    have hy : yielded ops tmps p.1 = match v' with | .bool b => some b | _ => none := by
      unfold yielded
      rw [hd]
      simp only [Option.bind_some, h1]
      cases v' <;> rfl
    show (yielded ops tmps p.1 == some p.2) = b
    rw [hy]
    cases v <;> dsimp only at h <;> (try (cases h; done)) <;> cases h2 <;> (try (obtain rfl := Option.some.inj h)) <;> first | rfl | (cases p.2 <;> rfl)

theorem put_ok {dst : Option Nat} {size : Nat} {T T' : Env} {v v' : Value} {a : Act} (h : put dst size T v = some T') (tr : TR ρ T a.tmps) (hs : a.tmps.size = size) (hl : size ≤ 100000) (hv : VR ρ v v') :
    TR ρ T' (a.put dst v').tmps ∧ (a.put dst v').tmps.size = size ∧ (a.put dst v').defers = a.defers := by
  cases dst with
  | none => simp only [put] at h; obtain rfl := Option.some.inj h; exact ⟨tr, hs, rfl⟩
  | some d =>
    simp only [put] at h
    cases hb : Nat.blt d size with
    | false => rw [hb] at h; cases h
    | true =>
      rw [hb, cond_true] at h
      obtain rfl := Option.some.inj h
      have hd : d < size := Nat.le_of_ble_eq_true hb
      refine ⟨fun t u hu => ?_, by simp [Act.put, hs], rfl⟩
      rw [Tr.get_set _ _ _ _ (by omega)] at hu
      simp only [Act.put, Array.getElem?_setIfInBounds]
      by_cases ht : t = d
      · subst ht
        rw [if_pos rfl] at hu
        obtain rfl := Option.some.inj hu
        exact ⟨v', by rw [if_pos rfl, if_pos (by omega)], hv⟩
      · rw [if_neg ht] at hu
        rw [if_neg (Ne.symm ht)]
        exact tr t u hu

/-- Operations in the order of the text. -/
theorem runOps_ok (C : CxOk P Γ) {call : CallF} (K : CallOk P Γ call) {size : Nat} {ops : Array Oper} {Q : Exit → Act → World → Prop} (hF : Wide F) (hl : size ≤ 100000) : ∀ (rest : List Oper) (i : Nat) (T T' : Env) (s s' : HS) (ρ : Rho) (a : Act) (w : World),
    (∀ j, rest[j]? = ops[i + j]?) → runOps Γ call size ops rest T s = some (T', s') → WF s → Pre Γ ρ s w s' → TR ρ T a.tmps → a.tmps.size = size →
    (∀ a' w' ρ', TR ρ' T' a'.tmps → a'.tmps.size = size → a'.defers = a.defers → Stp Γ ρ s w ρ' s' w' → Q .normal a' w') →
    wpOpsIn F 0 P ops Q (List.range' i rest.length) a w := by
  intro rest
  induction rest with
  | nil =>
    intro i T T' s s' ρ a w _ h wf pre tr hs hQ
    simp only [runOps, pure_eq, Prod.mk.injEq] at h
    obtain ⟨rfl, rfl⟩ := h
    exact hQ a w ρ tr hs rfl (Stp.same pre.inv rfl)
  | cons o rest ih =>
    intro i T T' s s' ρ a w hops h wf pre tr hs hQ
    have ho : ops[i]? = some o := by have := hops 0; simpa using this.symm
    have hrest : ∀ j, rest[j]? = ops[i + 1 + j]? := fun j => by have := hops (j + 1); rw [show i + 1 + j = i + (j + 1) by omega]; simpa using this
    simp only [runOps, have_eq] at h
    obtain ⟨b, hb, h⟩ := h
    have hw := wants_ok hb tr
    simp only [List.length_cons, List.range'_succ, wpOpsIn, ho, hw]
    cases b with
    | true =>
      simp only [cond_true, bind_eq, have_eq] at h
      obtain ⟨v, s1, h1, T1, hp, h2⟩ := h
      have hloc : Loc (anyOp o.op Γ call T) := Loc.anyOp K.loc _ _
      have n1 := hloc.up _ _ _ h1
      have n2 := (Loc.runOps K.loc size ops rest T1).up _ _ _ h2
      have wf1 := (hloc.at_ _ _ _ wf h1).wf
      simp only [if_true, Oper.wpIn]
      refine ⟨fun f _ => hF.fn f, uponIn_of hF (anyOp_ok C K h1 wf (pre.cut n2) tr hF) fun v' w' ρ' hv st => ?_⟩
      obtain ⟨t1, t2, t3⟩ := put_ok hp (tr.mono st.ext) hs hl hv
      refine ih (i + 1) T1 T' s1 s' ρ' _ w' hrest h2 wf1 (pre.split st n1) t1 t2 fun a' w'' ρ'' q1 q2 q3 q4 => ?_
      exact hQ a' w'' ρ'' q1 q2 (q3.trans t3) (st.trans q4 n1 n2)
    | false =>
      simp only [cond_false, have_eq] at h
      obtain ⟨T1, hp, h2⟩ := h
      simp only [Bool.false_eq_true, if_false]
      refine ⟨fun f _ => hF.fn f, ?_⟩
      obtain ⟨t1, t2, t3⟩ := put_ok (v' := undef) hp tr hs hl (VR.tup' (VRs.nil _))
      exact ih (i + 1) T1 T' s s' ρ _ w hrest h2 wf pre t1 t2 fun a' w'' ρ'' q1 q2 q3 q4 => hQ a' w'' ρ'' q1 q2 (q3.trans t3) q4

end call
end Go.Ideal

/-
  Drawn regions: what an operation looks at; a step on a part of the heap is a step on the whole. Conditions: none.
-/
import Derived.Test.YtpoaiachllclhaaGreatDoorBody
namespace Go.Ideal
open Go

section looks
variable {Γ : Cx}

theorem mem_tmpsL {t : Nat} : ∀ {l : List Operand}, Operand.tmp t ∈ l → t ∈ tmpsL l := by
  intro l
  induction l with
  | nil => intro h; cases h
  | cons x l ih =>
    intro h
    rcases List.mem_cons.1 h with h' | h'
    · subst h'; exact List.mem_cons_self ..
    · cases x <;> simp only [tmpsL] <;> first | exact List.mem_cons_of_mem _ (ih h') | exact ih h'

theorem look_congr {x : Operand} {T T' : Env} (h : ∀ t, x = .tmp t → T.get t = T'.get t) : look x T = look x T' := by
  cases x with
  | tmp t => exact h t rfl
  | const v => rfl
  | global g => rfl
  | func f => rfl

theorem args_congr {T T' : Env} : ∀ {l : List Operand}, (∀ x ∈ l, look x T = look x T') → args l T = args l T' := by
  intro l
  induction l with
  | nil => intro _; rfl
  | cons x l ih => intro h; simp only [args]; rw [h x (List.mem_cons_self ..), ih fun y hy => h y (List.mem_cons_of_mem _ hy)]

theorem parts_congr {T T' : Env} : ∀ {l : List (Nat × Operand)}, (∀ x ∈ l.map (·.2), look x T = look x T') → parts l T = parts l T' := by
  intro l
  induction l with
  | nil => intro _; rfl
  | cons x l ih => intro h; simp only [parts]; rw [h x.2 (List.mem_cons_self ..), ih fun y hy => h y (List.mem_cons_of_mem _ hy)]

theorem opt_congr {T T' : Env} {x : Option Operand} (h : ∀ y ∈ x.toList, look y T = look y T') : opt x T = opt x T' := by
  cases x with
  | none => rfl
  | some x => simp only [opt]; rw [h x (by simp)]

theorem anyOp_congr {call : CallF} {op : Op} {T T' : Env} (h : ∀ t ∈ tmpsL (looksL op), T.get t = T'.get t) : anyOp op Γ call T = anyOp op Γ call T' := by
  have hx : ∀ x ∈ looksL op, look x T = look x T' := fun x hx => look_congr fun t ht => h t (by subst ht; exact mem_tmpsL hx)
  cases op <;> try (rfl; done)
  case call c =>
    simp only [anyOp, callOp]
    simp only [looksL] at hx
    cases hc : c.callee with
    | builtin b => rw [hc] at hx; dsimp only at hx ⊢; rw [args_congr hx]
    | invoke r n => rfl
    | value f => rw [hc] at hx; dsimp only at hx ⊢; rw [hx f (List.mem_cons_self ..), args_congr fun x h => hx x (List.mem_cons_of_mem _ h)]
  case build t ps => simp only [looksL] at hx; simp only [anyOp, plainOp]; rw [parts_congr hx]
  case buildSlice t n ps => simp only [looksL] at hx; simp only [anyOp, plainOp]; rw [parts_congr hx]
  case makeFunc fn a b =>
    simp only [looksL] at hx
    simp only [anyOp, plainOp]
    cases fn <;> try rfl
    dsimp only
    rw [args_congr fun x h => hx x (List.mem_append.2 (.inl h)), args_congr fun x h => hx x (List.mem_append.2 (.inr h))]
  case slice t x l hh m =>
    simp only [looksL] at hx
    simp only [anyOp, plainOp]
    rw [hx x (List.mem_cons_self ..), opt_congr fun y hy => hx y (List.mem_cons_of_mem _ (List.mem_append.2 (.inl (List.mem_append.2 (.inl hy))))),
      opt_congr fun y hy => hx y (List.mem_cons_of_mem _ (List.mem_append.2 (.inl (List.mem_append.2 (.inr hy))))), opt_congr fun y hy => hx y (List.mem_cons_of_mem _ (List.mem_append.2 (.inr hy)))]
  case pick c a b =>
    simp only [looksL] at hx
    have h1 := hx c (by simp); have h2 := hx a (by simp); have h3 := hx b (by simp)
    simp only [anyOp, plainOp, h1]
    have : pickV a b T = pickV a b T' := by funext v; cases v <;> simp only [pickV, h2, h3]
    rw [this]
  all_goals
    simp only [looksL, List.mem_cons, List.not_mem_nil, or_false, forall_eq_or_imp, forall_eq] at hx
    simp only [anyOp, plainOp, hx]

theorem wants_congr {ops : Array Oper} {g : Option (Nat × Bool)} {T T' : Env} (h : ∀ t ∈ guardL ops g, T.get t = T'.get t) : wants ops g T = wants ops g T' := by
  cases g with
  | none => rfl
  | some p =>
    simp only [wants]
    cases hd : (ops[p.1]?).bind (·.dst) with
    | none => rfl
    | some d =>
      have : T.get d = T'.get d := h d (by simp only [guardL, hd]; exact List.mem_cons_self ..)
      simp only [Opt.go_some, this]

end looks

/-! ### Heaps cut and joined -/
theorem heap_of (f : Nat → Option IObj) (hf : ∀ k, 200000 < k → f k = none) : ∃ t : Tr IObj, ∀ k, t.get k = f k := by
  have go : ∀ n, n ≤ 200001 → ∃ t : Tr IObj, ∀ k, t.get k = if k < n then f k else none := by
    intro n
    induction n with
    | zero => exact fun _ => ⟨.e, fun k => by rw [Tr.get_e, if_neg (by omega)]⟩
    | succ n ih =>
      intro hn
      obtain ⟨t, ht⟩ := ih (by omega)
      refine ⟨t.set n (f n), fun k => ?_⟩
      rw [Tr.get_set _ _ _ _ (by omega), ht]
      by_cases h : k = n
      · subst h; rw [if_pos rfl, if_pos (by omega)]
      · rw [if_neg h]
        by_cases h2 : k < n
        · rw [if_pos h2, if_pos (by omega)]
        · rw [if_neg h2, if_neg (by omega)]
  obtain ⟨t, ht⟩ := go 200001 (Nat.le_refl _)
  refine ⟨t, fun k => ?_⟩
  rw [ht]
  by_cases h : k < 200001
  · rw [if_pos h]
  · rw [if_neg h, hf k (by omega)]

theorem env_of (f : Nat → Option Value) (hf : ∀ k, 100000 < k → f k = none) : ∃ t : Env, ∀ k, t.get k = f k := by
  have go : ∀ n, n ≤ 100001 → ∃ t : Env, ∀ k, t.get k = if k < n then f k else none := by
    intro n
    induction n with
    | zero => exact fun _ => ⟨.e, fun k => by rw [Tr.get_e, if_neg (by omega)]⟩
    | succ n ih =>
      intro hn
      obtain ⟨t, ht⟩ := ih (by omega)
      refine ⟨t.set n (f n), fun k => ?_⟩
      rw [Tr.get_set _ _ _ _ (by omega), ht]
      by_cases h : k = n
      · subst h; rw [if_pos rfl, if_pos (by omega)]
      · rw [if_neg h]
        by_cases h2 : k < n
        · rw [if_pos h2, if_pos (by omega)]
        · rw [if_neg h2, if_neg (by omega)]
  obtain ⟨t, ht⟩ := go 100001 (Nat.le_refl _)
  refine ⟨t, fun k => ?_⟩
  rw [ht]
  by_cases h : k < 100001
  · rw [if_pos h]
  · rw [if_neg h, hf k (by omega)]

section lift
variable {Γ : Cx}

theorem Inv.cut {ρ : Rho} {t t' : Tr IObj} {w : World} {n : Nat} (inv : Inv Γ ρ t w) (h : ∀ k, t'.get k = if k < n then t.get k else none) : Inv Γ ρ t' w := by
  have go : ∀ k x, t'.get k = some x → t.get k = some x := fun k x hk => by
    rw [h] at hk
    by_cases hkn : k < n
    · rwa [if_pos hkn] at hk
    · rw [if_neg hkn] at hk; cases hk
  exact ⟨fun i x rb hi hr => inv.obj i x rb (go _ _ hi) hr, fun i j x y rb rb' hij hi hj => inv.apart i j x y rb rb' hij (go _ _ hi) (go _ _ hj), inv.lim⟩

/-- A step on the blocks below n is a step on all. -/
theorem Stp.lift {ρ ρ' : Rho} {s s1 : HS} {t t' : Tr IObj} {w w' : World} {n n' : Nat} (st : Stp Γ ρ s w ρ' s1 w') (inv : Inv Γ ρ t w) (hs : ∀ k, s.h.get k = if k < n then t.get k else none)
    (hn : n ≤ n') (hgap : ∀ k, n ≤ k → k < n' → t.get k = none) (ht : ∀ k, t'.get k = if k < n' then s1.h.get k else t.get k)
    (hd : ∀ k rb, ρ' k = some rb → ρ k = some rb ∨ (n ≤ k ∧ k < n')) (a b : HS) (ha : a.h = t) (hb : b.h = t') (hdom : ∀ k rb, ρ' k = some rb → ρ k = some rb ∨ (a.nx ≤ k ∧ k < b.nx)) :
    Stp Γ ρ a w ρ' b w' := by
  -- above n' there are the blocks of t, with their images as they were
  have up : ∀ k x rb, n' ≤ k → t.get k = some x → ρ' k = some rb → ρ k = some rb := fun k x rb hk _ hr => by
    rcases hd k rb hr with h | ⟨_, h⟩
    · exact h
    · omega
  have sub : ∀ k x, s.h.get k = some x → k < n ∧ t.get k = some x := fun k x hk => by
    rw [hs] at hk
    by_cases hkn : k < n
    · rw [if_pos hkn] at hk; exact ⟨hkn, hk⟩
    · rw [if_neg hkn] at hk; cases hk
  have img : ∀ b, Img ρ s.h b → Img ρ t b := fun b ⟨i, x, rb, h1, h2⟩ => ⟨i, x, rb, (sub i x h1).2, h2⟩
  have imgL : ∀ b, ImgL ρ s.h b → ImgL ρ t b := fun b ⟨i, x, rb, h1, h2⟩ => ⟨i, x, rb, (sub i x h1).2, h2⟩
  -- an upper block's image is no image of a lower one that may be written; an upper one that may be written has no image of a lower one
  have far : ∀ k x rb, n' ≤ k → t.get k = some x → ρ k = some rb → live x = true → rb.ghost = false → ¬ Img ρ s.h rb.blk := by
    rintro k x rb hk hx hr hl hg ⟨j, y, rb2, h1, h2, h3, h4, h5⟩
    obtain ⟨hjn, hj⟩ := sub j y h1
    exact inv.apart k j x y rb rb2 (by omega) hx hj hl (live_of_wrt h2) hr h3 hg h4 (.inr h2) h5.symm
  have farL : ∀ k x rb, n' ≤ k → t.get k = some x → ρ k = some rb → wrt x = true → rb.ghost = false → ¬ ImgL ρ s.h rb.blk := by
    rintro k x rb hk hx hr hl hg ⟨j, y, rb2, h1, h2, h3, h4, h5⟩
    obtain ⟨hjn, hj⟩ := sub j y h1
    exact inv.apart k j x y rb rb2 (by omega) hx hj (live_of_wrt hl) h2 hr h3 hg h4 (.inl hl) h5.symm
  have inv' : Inv Γ ρ' t' w' := by
    refine ⟨fun i x rb hi hr => ?_, fun i j x y rb rb' hij hi hj hx hy hri hrj hgi hgj hw => ?_, st.inv.lim⟩
    · rw [ht] at hi
      by_cases hin : i < n'
      · rw [if_pos hin] at hi; exact st.inv.obj i x rb hi hr
      · rw [if_neg hin] at hi
        have hr' := up i x rb (by omega) hi hr
        refine ((inv.obj i x rb hi hr').of_heap_g (fun hg hl => ?_)).mono Γ st.ext
        exact st.frame _ ((inv.obj i x rb hi hr').lt hl hg) (far i x rb (by omega) hi hr' hl hg)
    · rw [ht] at hi hj
      by_cases hin : i < n'
      · rw [if_pos hin] at hi
        by_cases hjn : j < n'
        · rw [if_pos hjn] at hj
          exact st.inv.apart i j x y rb rb' hij hi hj hx hy hri hrj hgi hgj hw
        · rw [if_neg hjn] at hj
          have hrj' := up j y rb' (by omega) hj hrj
          have hlt := (inv.obj j y rb' hj hrj').lt hy hgj
          intro e
          rcases hw with hw | hw
          · rcases st.own rb.blk ⟨i, x, rb, hi, hw, hri, hgi, rfl⟩ with h | h
            · omega
            · exact far j y rb' (by omega) hj hrj' hy hgj (by rw [← e]; exact h)
          · rcases st.ownL rb.blk ⟨i, x, rb, hi, hx, hri, hgi, rfl⟩ with h | h
            · omega
            · exact farL j y rb' (by omega) hj hrj' hw hgj (by rw [← e]; exact h)
      · rw [if_neg hin] at hi
        have hri' := up i x rb (by omega) hi hri
        by_cases hjn : j < n'
        · rw [if_pos hjn] at hj
          have hlt := (inv.obj i x rb hi hri').lt hx hgi
          intro e
          rcases hw with hw | hw
          · rcases st.ownL rb'.blk ⟨j, y, rb', hj, hy, hrj, hgj, rfl⟩ with h | h
            · omega
            · exact farL i x rb (by omega) hi hri' hw hgi (by rw [e]; exact h)
          · rcases st.own rb'.blk ⟨j, y, rb', hj, hw, hrj, hgj, rfl⟩ with h | h
            · omega
            · exact far i x rb (by omega) hi hri' hx hgi (by rw [e]; exact h)
        · rw [if_neg hjn] at hj
          exact inv.apart i j x y rb rb' hij hi hj hx hy hri' (up j y rb' (by omega) hj hrj) hgi hgj hw
  subst ha hb
  refine ⟨st.ext, hdom, inv', st.os, st.tape, st.out, st.size, fun k hk => ?_, fun k hk hni => st.frame k hk fun h => hni (img k h), fun k hk => ?_⟩
  · obtain ⟨i, x, rb, hi, hw, hr, hg, rfl⟩ := hk
    rw [ht] at hi
    by_cases hin : i < n'
    · rw [if_pos hin] at hi
      exact (st.own _ ⟨i, x, rb, hi, hw, hr, hg, rfl⟩).imp id (img _)
    · rw [if_neg hin] at hi
      exact .inr ⟨i, x, rb, hi, hw, up i x rb (by omega) hi hr, hg, rfl⟩
  · obtain ⟨i, x, rb, hi, hw, hr, hg, rfl⟩ := hk
    rw [ht] at hi
    by_cases hin : i < n'
    · rw [if_pos hin] at hi
      exact (st.ownL _ ⟨i, x, rb, hi, hw, hr, hg, rfl⟩).imp id (imgL _)
    · rw [if_neg hin] at hi
      exact .inr ⟨i, x, rb, hi, hw, up i x rb (by omega) hi hr, hg, rfl⟩

/-- Steps follow one another, whatever the numbers. -/
theorem Stp.comp {ρ ρ1 ρ2 : Rho} {s s1 s1' s2 a b : HS} {w w1 w2 : World} (h : Stp Γ ρ s w ρ1 s1 w1) (k : Stp Γ ρ1 s1' w1 ρ2 s2 w2) (h1 : s1'.h = s1.h) (ha : a.h = s.h) (hb : b.h = s2.h)
    (hdom : ∀ i rb, ρ2 i = some rb → ρ i = some rb ∨ (a.nx ≤ i ∧ i < b.nx)) : Stp Γ ρ a w ρ2 b w2 where
  ext := h.ext.trans k.ext
  dom := hdom
  inv := by rw [hb]; exact k.inv
  os := k.os.trans h.os
  tape := k.tape.trans h.tape
  out := k.out.trans h.out
  size := Nat.le_trans h.size k.size
  own c hc := by
    rw [hb] at hc
    rcases k.own c hc with hc | hc
    · exact .inl (Nat.le_trans h.size hc)
    · rw [h1] at hc; rw [ha]; exact h.own c hc
  frame c hc hi := by
    rw [ha] at hi
    rw [k.frame c (Nat.lt_of_lt_of_le hc h.size) (fun hh => by rw [h1] at hh; rcases h.own c hh with h1 | h1; omega; exact hi h1), h.frame c hc hi]
  ownL c hc := by
    rw [hb] at hc
    rcases k.ownL c hc with hc | hc
    · exact .inl (Nat.le_trans h.size hc)
    · rw [h1] at hc; rw [ha]; exact h.ownL c hc

end lift
end Go.Ideal

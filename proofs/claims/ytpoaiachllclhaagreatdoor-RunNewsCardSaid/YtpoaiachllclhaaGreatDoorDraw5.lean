/-
  Drawn regions, whole. Conditions: none.
-/
import Derived.Test.YtpoaiachllclhaaGreatDoorDraw4
namespace Go.Ideal
open Go

/-! ### The order's bits -/
def bmask (pre : Array Nat) (after : List Edge) (s : Nat) : Nat := after.foldl (fun s e => if Region.binds .any e then s ||| 2 ^ e.on ||| pre.getD e.on 0 else s) s
def bstep (acc : Array Nat) (o : Oper) : Array Nat := acc.push (bmask acc o.after.toList 0)

theorem before_eq (ops : Array Oper) : Region.before ops = ops.toList.foldl bstep #[] := by
  unfold Region.before bstep bmask
  rw [← Array.foldl_toList]
  congr 1
  funext acc o
  rw [← Array.foldl_toList]

theorem bmask_bit {pre : Array Nat} {j : Nat} : ∀ (l : List Edge) (s : Nat), Nat.testBit (bmask pre l s) j = true → Nat.testBit s j = true ∨ ∃ e ∈ l, Region.binds .any e = true ∧ (e.on = j ∨ Nat.testBit (pre.getD e.on 0) j = true) := by
  intro l
  induction l with
  | nil => intro s h; exact .inl h
  | cons e l ih =>
    intro s h
    unfold bmask at h
    rw [List.foldl_cons] at h
    rcases ih _ h with h1 | ⟨e', h1, h2⟩
    · cases hb : Region.binds .any e with
      | false => rw [hb] at h1; exact .inl h1
      | true =>
        rw [hb, if_pos rfl, Nat.testBit_or, Nat.testBit_or, Bool.or_eq_true, Bool.or_eq_true] at h1
        rcases h1 with (h1 | h1) | h1
        · exact .inl h1
        · rw [Nat.testBit_two_pow] at h1
          exact .inr ⟨e, List.mem_cons_self .., hb, .inl (of_decide_eq_true h1)⟩
        · exact .inr ⟨e, List.mem_cons_self .., hb, .inr h1⟩
    · exact .inr ⟨e', List.mem_cons_of_mem _ h1, h2⟩

theorem before_go : ∀ (l : List Oper) (acc : Array Nat), (l.foldl bstep acc).size = acc.size + l.length ∧ (∀ k, k < acc.size → (l.foldl bstep acc)[k]? = acc[k]?) ∧
    ∀ (i : Nat) o, l[i]? = some o → ∃ pre : Array Nat, pre.size = acc.size + i ∧ (∀ k, k < pre.size → (l.foldl bstep acc)[k]? = pre[k]?) ∧ (l.foldl bstep acc)[acc.size + i]? = some (bmask pre o.after.toList 0) := by
  intro l
  induction l with
  | nil => intro acc; exact ⟨rfl, fun _ _ => rfl, fun i o h => by simp at h⟩
  | cons o l ih =>
    intro acc
    obtain ⟨i1, i2, i3⟩ := ih (bstep acc o)
    have hs : (bstep acc o).size = acc.size + 1 := by simp [bstep]
    rw [List.foldl_cons]
    have i2' : ∀ k, k < acc.size → (l.foldl bstep (bstep acc o))[k]? = acc[k]? := fun k hk => by
      rw [i2 k (by omega)]
      simp only [bstep]
      rw [Array.getElem?_push, if_neg (by omega)]
    refine ⟨by rw [i1, hs, List.length_cons]; omega, i2', fun i o' ho => ?_⟩
    cases i with
    | zero =>
      simp at ho
      subst ho
      refine ⟨acc, rfl, i2', ?_⟩
      rw [Nat.add_zero, i2 acc.size (by omega)]
      simp [bstep]
    | succ i =>
      obtain ⟨pre, p1, p2, p3⟩ := i3 i o' (by simpa using ho)
      exact ⟨pre, by rw [p1, hs]; omega, p2, by rw [show acc.size + (i + 1) = (bstep acc o).size + i by omega]; exact p3⟩

theorem bits_spec {ops : Array Oper} (R : RegOk ops) {i j : Nat} {o : Oper} (ho : ops[i]? = some o) (hb : Nat.testBit (bits ops i) j = true) : ∃ e ∈ o.after.toList, Region.binds .any e = true ∧ (e.on = j ∨ Nat.testBit (bits ops e.on) j = true) := by
  obtain ⟨-, -, h3⟩ := before_go ops.toList #[]
  obtain ⟨pre, p1, p2, p3⟩ := h3 i o (by rw [Array.getElem?_toList]; exact ho)
  rw [← before_eq] at p2 p3
  have hbi : bits ops i = bmask pre o.after.toList 0 := by
    unfold bits
    rw [Array.getD_eq_getD_getElem?]
    rw [show (#[] : Array Nat).size + i = i by simp] at p3
    rw [p3]; rfl
  rw [hbi] at hb
  rcases bmask_bit _ _ hb with h | ⟨e, h1, h2, h4⟩
  · simp at h
  · refine ⟨e, h1, h2, h4.imp id fun h => ?_⟩
    have hlt := R.back i o ho e h1 h2
    have : pre.getD e.on 0 = bits ops e.on := by
      unfold bits
      rw [Array.getD_eq_getD_getElem?, Array.getD_eq_getD_getElem?, p2 e.on (by rw [p1]; simp; exact hlt)]
    rw [← this]; exact h

theorem bits_lt {ops : Array Oper} (R : RegOk ops) : ∀ (i j : Nat), i < ops.size → Nat.testBit (bits ops i) j = true → j < i := by
  intro i
  induction i using Nat.strongRecOn with
  | _ i ih =>
    intro j hi hb
    have ho : ops[i]? = some ops[i] := Array.getElem?_eq_getElem hi
    obtain ⟨e, h1, h2, h3⟩ := bits_spec R ho hb
    have hlt := R.back i _ ho e h1 h2
    rcases h3 with h3 | h3
    · omega
    · have := ih e.on hlt j (by omega) h3; omega

section ds
variable {P : Program} {Γ : Cx} {call : CallF} {size : Nat} {ops : Array Oper} {T : Nat → Env} {h : Nat → Tr IObj} {n : Nat → Nat} {v : Nat → Value} {f : Nat → Foot} {run : Nat → Bool}

theorem Stp.congr {ρ ρ' : Rho} {s s1 s2 : HS} {w w' : World} (st : Stp Γ ρ s w ρ' s1 w') (hh : ∀ k, s2.h.get k = s1.h.get k) (hn : s2.nx = s1.nx) : Stp Γ ρ s w ρ' s2 w' where
  ext := st.ext
  dom i rb hi := by rw [hn]; exact st.dom i rb hi
  inv := ⟨fun i x rb hi hr => st.inv.obj i x rb (by rw [← hh]; exact hi) hr, fun i j x y rb rb' hij hi hj => st.inv.apart i j x y rb rb' hij (by rw [← hh]; exact hi) (by rw [← hh]; exact hj), st.inv.lim⟩
  os := st.os
  tape := st.tape
  out := st.out
  size := st.size
  own b hb := by
    obtain ⟨i, x, rb, h1, h2⟩ := hb
    exact st.own b ⟨i, x, rb, by rw [← hh]; exact h1, h2⟩
  frame := st.frame
  ownL b hb := by
    obtain ⟨i, x, rb, h1, h2⟩ := hb
    exact st.ownL b ⟨i, x, rb, by rw [← hh]; exact h1, h2⟩


/-- all have been run -/
theorem DS.final (S : DS P Γ call size ops T h n v f run) {ρ0 ρ : Rho} {s0 s' : HS} {w0 w : World} {ds0 : List Deferred} {D : Nat → Prop} {t : Tr IObj} {a : Act} (I : Sim Γ size ops T h n v f ρ0 s0 w0 ds0 D ρ t a w) (hall : ∀ j, j < ops.size → D j)
    (hh : s'.h = h ops.size) (hn : s'.nx = n ops.size) : TR ρ (T ops.size) a.tmps ∧ a.tmps.size = size ∧ a.defers = ds0 ∧ Stp Γ ρ0 s0 w0 ρ s' w := by
  have wfN := S.wf ops.size (Nat.le_refl _)
  refine ⟨fun τ u hu => ?_, I.size, I.defers, I.stp.congr (fun b => ?_) hn⟩
  · rcases S.temps ops.size (Nat.le_refl _) τ with ⟨j, oj, h1, h2, h3, h4⟩ | ⟨h1, h2⟩
    · rw [hu] at h4
      rw [Option.some.inj h4]
      exact I.tmpD j oj τ (hall j h1) h2 h3
    · rw [hu] at h2
      exact I.tmp0 τ u h2.symm fun j oj _ hoj => h1 j oj (Array.getElem?_eq_some_iff.1 hoj).1 hoj
  · rw [hh]
    show (h ops.size).get b = t.get b
    have hpres : (b < n 0 ∨ ∃ j, D j ∧ j < ops.size ∧ n j ≤ b ∧ b < n (j + 1)) ∨ n ops.size ≤ b := by
      by_cases h0 : b < n 0
      · exact .inl (.inl h0)
      · by_cases hN : b < n ops.size
        · obtain ⟨c, hc, h1, h2⟩ := S.maker ops.size (Nat.le_refl _) (by omega) hN
          exact .inl (.inr ⟨c, hall c hc, hc, h1, h2⟩)
        · exact .inr (by omega)
    rcases hpres with hp | hp
    · refine get_of_views (fun k hk => ?_) (fun x c hx hc => I.short b x c hx hc)
      obtain ⟨m, hm, hlast, hview⟩ := I.on k (by rw [hk]; exact hp)
      have hkm : k / 4096 < n m ∧ m ≤ ops.size := by
        rcases hm with ⟨rfl, h⟩ | ⟨j, -, hj, rfl, h, -⟩
        · exact ⟨h, Nat.zero_le _⟩
        · exact ⟨h, hj⟩
      rw [hview]
      exact S.views ops.size (Nat.le_refl _) m hkm.2 hkm.1 fun i h1 h2 => hlast i (hall i h2) h2 h1
    · have h0 := S.mono ops.size (Nat.le_refl _) 0 (Nat.zero_le _)
      rw [I.off b (by omega) fun ⟨j, _, h2, _, h4⟩ => by have := S.mono ops.size (Nat.le_refl _) (j + 1) (by omega); omega]
      exact wfN.free b hp

theorem DS.any (S : DS P Γ call size ops T h n v f run) {ρ0 : Rho} {s0 s' : HS} {w0 : World} {ds0 : List Deferred} (fix0 : Fix Γ ρ0 s0.h w0) (hn0 : s0.nx = n 0) (free0 : ∀ k, n 0 ≤ k → k < n ops.size → ρ0 k = none) (hh : s'.h = h ops.size) (hn : s'.nx = n ops.size)
    {F : Fence} (hF : Wide F) {Q : Exit → Act → World → Prop} (hQ : ∀ a' w' ρ', TR ρ' (T ops.size) a'.tmps → a'.tmps.size = size → a'.defers = ds0 → Stp Γ ρ0 s0 w0 ρ' s' w' → Q .normal a' w') :
    ∀ (fuel : Nat) (listed : Array Bool) (a : Act) (w : World), listed.size = ops.size → (∃ L : List Nat, L.length ≤ fuel ∧ ∀ i, i < ops.size → listed.getD i false = false → i ∈ L) → Closed ops (fun j => listed.getD j false = true) →
      (∃ ρ t, Sim Γ size ops T h n v f ρ0 s0 w0 ds0 (fun j => listed.getD j false = true) ρ t a w) → wpAnyIn F 0 P .any ops Q fuel listed a w := by
  have fin : ∀ (listed : Array Bool) (a : Act) (w : World), (∀ j, j < ops.size → listed.getD j false = true) → (∃ ρ t, Sim Γ size ops T h n v f ρ0 s0 w0 ds0 (fun j => listed.getD j false = true) ρ t a w) → Q .normal a w := by
    rintro listed a w hall ⟨ρ, t, I⟩
    obtain ⟨a1, a2, a3, a4⟩ := S.final I hall hh hn
    exact hQ a w ρ a1 a2 a3 a4
  have none_ready : ∀ (listed : Array Bool), listed.size = ops.size → Region.ready .any ops listed = [] → ∀ j, j < ops.size → listed.getD j false = true := by
    intro listed hs hr j
    induction j using Nat.strongRecOn with
    | _ j ih =>
      intro hj
      cases hx : listed.getD j false with
      | true => rfl
      | false =>
        exfalso
        have ho : ops[j]? = some ops[j] := Array.getElem?_eq_getElem hj
        have hm : j ∈ Region.ready .any ops listed := by
          rw [mem_ready]
          refine ⟨?_, _, ho, fun e he hb => ?_⟩
          · rw [Array.getD_eq_getD_getElem?, Array.getElem?_eq_getElem (by omega)] at hx ⊢; exact hx
          · have hlt := S.R.back j _ ho e (by simpa using he) hb
            exact ih e.on hlt (by omega)
        rw [hr] at hm; cases hm
  intro fuel
  induction fuel with
  | zero =>
    rintro listed a w hs ⟨L, hL, hLm⟩ hcl hsim
    have hall : ∀ j, j < ops.size → listed.getD j false = true := fun j hj => by
      cases hx : listed.getD j false with
      | true => rfl
      | false =>
        have := hLm j hj hx
        rw [List.eq_nil_of_length_eq_zero (Nat.le_zero.1 hL)] at this; cases this
    refine ⟨?_, fin listed a w hall hsim⟩
    cases hr : Region.ready .any ops listed with
    | nil => rfl
    | cons i l =>
      exfalso
      have hm : i ∈ Region.ready .any ops listed := by rw [hr]; exact List.mem_cons_self ..
      rw [mem_ready] at hm
      obtain ⟨h0, o, ho, -⟩ := hm
      have hi := (Array.getElem?_eq_some_iff.1 ho).1
      have h1 := hall i hi
      rw [Array.getD_eq_getD_getElem?, Array.getElem?_eq_getElem (by omega)] at h0 h1
      simp only [Option.getD_some] at h0 h1
      rw [h1] at h0; cases h0
  | succ fuel ih =>
    rintro listed a w hs ⟨L, hL, hLm⟩ hcl ⟨ρ, t, I⟩
    refine ⟨fun hr => fin listed a w (none_ready listed hs hr) ⟨ρ, t, I⟩, fun i hi => ?_⟩
    rw [mem_ready] at hi
    obtain ⟨h0, o, ho, hall⟩ := hi
    have his := (Array.getElem?_eq_some_iff.1 ho).1
    have hiD : listed.getD i false = false := by
      rw [Array.getD_eq_getD_getElem?, Array.getElem?_eq_getElem (by omega)] at h0 ⊢; exact h0
    have hbit : ∀ j, j < i → Nat.testBit (bits ops i) j = true → listed.getD j false = true := fun j hj hb => by
      obtain ⟨e, h1, h2, h3⟩ := bits_spec S.R ho hb
      have hlt := S.R.back i o ho e h1 h2
      have hD := hall e (by simpa using h1) h2
      rcases h3 with rfl | h3
      · exact hD
      · exact hcl e.on j hD (by omega) (bits_lt S.R e.on j (by omega) h3) h3
    have hset : (fun j => listed.getD j false = true ∨ j = i) = fun j => (listed.setIfInBounds i true).getD j false = true := by
      funext j
      apply propext
      rw [Array.getD_eq_getD_getElem?, Array.getD_eq_getD_getElem?, Array.getElem?_setIfInBounds]
      by_cases hij : i = j
      · subst hij; simp [show i < listed.size by omega]
      · rw [if_neg hij]; simp [Ne.symm hij]
    refine wpOpIn_mono (fun a' w' hsim => ?_) (S.simStep I hcl fix0 hn0 free0 hF (Q := Q) his ho (by rw [hiD]; simp) hbit)
    refine ih (listed.setIfInBounds i true) a' w' (by simp [hs]) ⟨L.erase i, ?_, fun j hj hx => ?_⟩ ?_ ?_
    · have := hLm i his hiD
      rw [List.length_erase_of_mem this]; omega
    · have hne : j ≠ i := fun e => by
        subst e
        rw [Array.getD_eq_getD_getElem?, Array.getElem?_setIfInBounds, if_pos rfl, if_pos (by omega)] at hx
        cases hx
      rw [Array.getD_eq_getD_getElem?, Array.getElem?_setIfInBounds, if_neg (Ne.symm hne), ← Array.getD_eq_getD_getElem?] at hx
      exact (List.mem_erase_of_ne hne).2 (hLm j hj hx)
    · rw [← hset]
      rintro j k (hj | rfl) hjs hkj hb
      · exact .inl (hcl j k hj hjs hkj hb)
      · exact .inl (hbit k hkj hb)
    · rw [← hset]; exact hsim

theorem drawOk (C : CxOk P Γ) (hm : P.follows .mixedOrders = true) : DrawOk P Γ := by
  intro call K F hF size ops Q T T' s s' ρ a w hl h1 h2 hr wf pre tr hs hQ t
  obtain ⟨Tf, h, n, v, f, run, e1, e2, e3, e4, e5, e6, -, trc⟩ := trace_of (g := fun _ => ⟨.e, .e, 0, 0⟩) (numbered ops) 0 [] T T' s s' (fun j => by simp) (fun j hj => absurd hj (by omega)) hr
  rw [numbered_length, Nat.zero_add] at e4 e5 e6 trc
  have wf0 : WF (bare (h 0) (n 0)) := by
    rw [e2, e3]
    exact ⟨Nat.le_refl _, wf.lim, wf.free, wf.short, fun k hk => by rcases hk with h | h <;> exact absurd (Tr.get_e k) h⟩
  have S : DS P Γ call size ops Tf h n v f run := ⟨C, K, hl, regOk h1 h2, trc, wf0⟩
  have noD : ∀ j, ¬ (Array.replicate ops.size false).getD j false = true := fun j hj => by
    rw [Array.getD_eq_getD_getElem?, Array.getElem?_replicate] at hj
    split at hj <;> simp at hj
  have any := S.any (ρ0 := ρ) (s0 := s) (s' := s') (w0 := w) (ds0 := a.defers) pre.fix e3.symm (fun k hk hk' => pre.free k (by omega) (by omega)) e5.symm e6.symm hF (Q := Q) (by rw [e4]; exact hQ) ops.size (Array.replicate ops.size false) a w (by simp)
    ⟨List.range ops.size, by simp, fun i hi _ => List.mem_range.2 hi⟩ (fun j i hj => absurd hj (noD j)) ⟨ρ, s.h, ?_⟩
  · simp only [Region.schedule, hm, Bool.true_or, if_true]
    exact wpAnyIn_sound ops.size t _ a w any
  · refine ⟨Stp.same pre.inv rfl, fun k rb hk => .inl hk, hs, rfl, fun j o τ hj => absurd hj (noD j), fun τ u hu _ => tr τ u (by rw [← e1]; exact hu), fun b hb _ => wf.free b (by omega), fun k hk => ?_, wf.short⟩
    have hk0 : k / 4096 < n 0 := by
      rcases hk with hk | ⟨j, hj, -⟩
      · exact hk
      · exact absurd hj (noD j)
    exact ⟨0, .inl ⟨rfl, hk0⟩, fun j hj => absurd hj (noD j), by rw [e2]⟩

end ds
end Go.Ideal

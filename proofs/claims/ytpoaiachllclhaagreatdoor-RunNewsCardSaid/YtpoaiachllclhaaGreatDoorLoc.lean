/-
  What the evaluator reads and writes: a run hangs on the places it touched alone. Conditions: none.
-/
import Derived.Test.YtpoaiachllclhaaGreatDoorIdeal
namespace Go.Ideal
open Go

section tries
variable {α : Type}

theorem Tr.get_e (k : Nat) : (Tr.e : Tr α).get k = none := by cases k <;> rfl
theorem Tr.get_n0 (l r : Tr α) (v : Option α) : (Tr.n l v r).get 0 = v := rfl
theorem Tr.get_ns (l r : Tr α) (v : Option α) (m : Nat) : (Tr.n l v r).get (m + 1) = if m % 2 = 0 then l.get (m / 2) else r.get (m / 2) := by
  show Nat.rec (motive := fun _ => Option α) (l.get (m / 2)) (fun _ _ => r.get (m / 2)) (m % 2) = _
  have h : m % 2 = 0 ∨ m % 2 = 1 := by omega
  rcases h with h | h <;> rw [h] <;> rfl

theorem Tr.setF_e0 (f : Nat) (v : Option α) : Tr.setF (f + 1) (.e : Tr α) 0 v = .n .e v .e := rfl
theorem Tr.setF_es (f m : Nat) (v : Option α) : Tr.setF (f + 1) (.e : Tr α) (m + 1) v = if m % 2 = 0 then .n (Tr.setF f .e (m / 2) v) none .e else .n .e none (Tr.setF f .e (m / 2) v) := by
  show Nat.rec (motive := fun _ => Tr α) (.n (Tr.setF f .e (m / 2) v) none .e) (fun _ _ => .n .e none (Tr.setF f .e (m / 2) v)) (m % 2) = _
  have h : m % 2 = 0 ∨ m % 2 = 1 := by omega
  rcases h with h | h <;> rw [h] <;> rfl
theorem Tr.setF_n0 (f : Nat) (l r : Tr α) (x v : Option α) : Tr.setF (f + 1) (.n l x r) 0 v = .n l v r := rfl
theorem Tr.setF_ns (f m : Nat) (l r : Tr α) (x v : Option α) : Tr.setF (f + 1) (.n l x r) (m + 1) v = if m % 2 = 0 then .n (Tr.setF f l (m / 2) v) x r else .n l x (Tr.setF f r (m / 2) v) := by
  show Nat.rec (motive := fun _ => Tr α) (.n (Tr.setF f l (m / 2) v) x r) (fun _ _ => .n l x (Tr.setF f r (m / 2) v)) (m % 2) = _
  have h : m % 2 = 0 ∨ m % 2 = 1 := by omega
  rcases h with h | h <;> rw [h] <;> rfl

theorem Tr.get_setF : ∀ (f : Nat) (t : Tr α) (k j : Nat) (v : Option α), k + 1 < 2 ^ f → (Tr.setF f t k v).get j = if j = k then v else t.get j := by
  intro f
  induction f with
  | zero => intro t k j v h; simp at h
  | succ f ih =>
    intro t k j v h
    have hp : 2 ^ (f + 1) = 2 * 2 ^ f := by rw [Nat.pow_succ, Nat.mul_comm]
    rw [hp] at h
    cases t with
    | e =>
      cases k with
      | zero =>
        rw [Tr.setF_e0]
        cases j with
        | zero => simp [Tr.get_n0]
        | succ j => rw [Tr.get_ns]; simp [Tr.get_e]
      | succ k =>
        rw [Tr.setF_es]
        have hk : k / 2 + 1 < 2 ^ f := by omega
        cases j with
        | zero => split <;> simp [Tr.get_n0, Tr.get_e]
        | succ j =>
          split
          · rw [Tr.get_ns]
            split
            · rw [ih _ _ _ _ hk]
              have : (j / 2 = k / 2) ↔ (j + 1 = k + 1) := by omega
              simp [this, Tr.get_e]
            · have : j ≠ k := by omega
              simp [this, Tr.get_e]
          · rw [Tr.get_ns]
            split
            · have : j ≠ k := by omega
              simp [this, Tr.get_e]
            · rw [ih _ _ _ _ hk]
              have : (j / 2 = k / 2) ↔ (j + 1 = k + 1) := by omega
              simp [this, Tr.get_e]
    | n l x r =>
      cases k with
      | zero =>
        rw [Tr.setF_n0]
        cases j with
        | zero => simp [Tr.get_n0]
        | succ j => rw [Tr.get_ns, Tr.get_ns]; simp
      | succ k =>
        rw [Tr.setF_ns]
        have hk : k / 2 + 1 < 2 ^ f := by omega
        cases j with
        | zero => split <;> simp [Tr.get_n0]
        | succ j =>
          split
          · rw [Tr.get_ns, Tr.get_ns]
            split
            · rw [ih _ _ _ _ hk]
              have : (j / 2 = k / 2) ↔ (j + 1 = k + 1) := by omega
              simp [this]
            · have : j ≠ k := by omega
              simp [this]
          · rw [Tr.get_ns, Tr.get_ns]
            split
            · have : j ≠ k := by omega
              simp [this]
            · rw [ih _ _ _ _ hk]
              have : (j / 2 = k / 2) ↔ (j + 1 = k + 1) := by omega
              simp [this]

theorem Tr.get_set (t : Tr α) (k j : Nat) (v : Option α) (h : k < 1000000000000) : (t.set k v).get j = if j = k then v else t.get j :=
  Tr.get_setF 40 t k j v (by omega)

theorem Tr.get_or : ∀ (t u : Tr α) (i : Nat), (t.or u).get i = match t.get i with | some x => some x | none => u.get i := by
  intro t
  induction t with
  | e => intro u i; simp [Tr.or, Tr.get_e]
  | n l v r ihl ihr =>
    intro u i
    cases u with
    | e => simp only [Tr.or]; cases (Tr.n l v r).get i <;> simp [Tr.get_e]
    | n l' v' r' =>
      simp only [Tr.or]
      cases i with
      | zero => simp only [Tr.get_n0]; cases v <;> rfl
      | succ i =>
        simp only [Tr.get_ns]
        split
        · exact ihl _ _
        · exact ihr _ _

theorem Tr.or_ne {t u : Tr α} {i : Nat} : (t.or u).get i ≠ none ↔ t.get i ≠ none ∨ u.get i ≠ none := by
  rw [Tr.get_or]; cases t.get i <;> simp

theorem Tr.apart_get {β : Type} : ∀ (t : Tr α) (u : Tr β), t.apart u = true → ∀ i, t.get i = none ∨ u.get i = none := by
  intro t
  induction t with
  | e => intro u _ i; exact .inl (Tr.get_e i)
  | n l v r ihl ihr =>
    intro u h i
    cases u with
    | e => exact .inr (Tr.get_e i)
    | n l' v' r' =>
      simp only [Tr.apart, Bool.and_eq_true] at h
      obtain ⟨h0, h1, h2⟩ := h
      cases i with
      | zero =>
        simp only [Tr.get_n0]
        cases v <;> cases v' <;> simp_all
      | succ i =>
        simp only [Tr.get_ns]
        split
        · exact ihl _ h1 _
        · exact ihr _ h2 _
end tries

theorem force_eq {α : Type} (n : Nat) (k : Nat → α) : force n k = k n := by cases n <;> rfl
theorem forceB_eq {α : Type} (b : Bool) (k : Bool → α) : forceB b k = k b := by cases b <;> rfl
@[simp] theorem Opt.go_some {α β : Type} (a : α) (f : α → Option β) : Opt.go (some a) f = f a := rfl
@[simp] theorem Opt.go_none {α β : Type} (f : α → Option β) : Opt.go none f = none := rfl
theorem Opt.go_eq {α β : Type} {x : Option α} {f : α → Option β} {b : β} : Opt.go x f = some b ↔ ∃ a, x = some a ∧ f a = some b := by
  cases x <;> simp

theorem key_div (i o : Nat) (h : o < 4096) : key i o / 4096 = i := by show (i * 4096 + o) / 4096 = i; omega
theorem key_mod (i o : Nat) (h : o < 4096) : key i o % 4096 = o := by show (i * 4096 + o) % 4096 = o; omega
theorem key_eq (i o : Nat) : key i o = i * 4096 + o := rfl

theorem markR_get (i : Nat) : ∀ (n o : Nat) (t : Tr Unit) (k : Nat), i ≤ 200000 → o + n < 4096 →
    ((markR i n o t).get k ≠ none ↔ (∃ j, j < n ∧ k = key i (o + j + 1)) ∨ t.get k ≠ none) := by
  intro n
  induction n with
  | zero => intro o t k _ _; simp [markR]
  | succ n ih =>
    intro o t k hi ho
    have e : markR i (n + 1) o t = markR i n (o + 1) (t.set (key i (o + 1)) (some ())) := rfl
    rw [e, ih _ _ _ hi (by omega), Tr.get_set _ _ _ _ (by rw [key_eq]; omega)]
    constructor
    · rintro (⟨j, hj, rfl⟩ | h)
      · exact .inl ⟨j + 1, by omega, by rw [key_eq, key_eq]; omega⟩
      · split at h
        · exact .inl ⟨0, by omega, by subst k; rfl⟩
        · exact .inr h
    · rintro (⟨j, hj, rfl⟩ | h)
      · cases j with
        | zero => exact .inr (by simp)
        | succ j => exact .inl ⟨j, by omega, by rw [key_eq, key_eq]; omega⟩
      · exact .inr (by split <;> simp [h])

/-! ### Views -/
/-- What stands at a place: a block without its cells, or a cell. -/
noncomputable def view (h : Tr IObj) (k : Nat) : Option IObj ⊕ Option Value :=
  if k % 4096 = 0 then .inl ((h.get (k / 4096)).map strip) else .inr (((h.get (k / 4096)).bind cellsIn).bind fun c => c[k % 4096 - 1]?)

theorem view_of_get {h h' : Tr IObj} {k : Nat} (e : h.get (k / 4096) = h'.get (k / 4096)) : view h k = view h' k := by
  unfold view; rw [e]

theorem view_key0 (h : Tr IObj) (i : Nat) : view h (key i 0) = .inl ((h.get i).map strip) := by
  unfold view; rw [key_mod _ _ (by omega), key_div _ _ (by omega)]; simp
theorem view_keyS (h : Tr IObj) (i o : Nat) (ho : o < 4095) : view h (key i (o + 1)) = .inr (((h.get i).bind cellsIn).bind fun c => c[o]?) := by
  unfold view; rw [key_mod _ _ (by omega), key_div _ _ (by omega)]; simp

theorem key_of (k : Nat) : ∃ i o, o < 4096 ∧ k = key i o ∧ k / 4096 = i := ⟨k / 4096, k % 4096, Nat.mod_lt _ (by omega), by rw [key_eq]; omega, rfl⟩

structure WF (s : HS) : Prop where
  le : s.wm ≤ s.nx
  lim : s.nx ≤ 200000
  free : ∀ i, s.nx ≤ i → s.h.get i = none
  short : ∀ i x c, s.h.get i = some x → cellsIn x = some c → c.length < 4095
  cl : ∀ k, (s.rd.get k ≠ none ∨ s.wr.get k ≠ none) → (s.rd.get (key (k / 4096) 0) ≠ none ∨ s.wr.get (key (k / 4096) 0) ≠ none)

theorem cl_mark {rd wr rd' wr' : Tr Unit} {i : Nat} (cl : ∀ k, (rd.get k ≠ none ∨ wr.get k ≠ none) → (rd.get (key (k / 4096) 0) ≠ none ∨ wr.get (key (k / 4096) 0) ≠ none))
    (h1 : ∀ k, rd.get k ≠ none → rd'.get k ≠ none) (h2 : ∀ k, wr.get k ≠ none → wr'.get k ≠ none)
    (h3 : ∀ k, rd'.get k ≠ none → rd.get k ≠ none ∨ k / 4096 = i) (h4 : ∀ k, wr'.get k ≠ none → wr.get k ≠ none ∨ k / 4096 = i)
    (h5 : rd'.get (key i 0) ≠ none ∨ wr'.get (key i 0) ≠ none) :
    ∀ k, (rd'.get k ≠ none ∨ wr'.get k ≠ none) → (rd'.get (key (k / 4096) 0) ≠ none ∨ wr'.get (key (k / 4096) 0) ≠ none) := by
  intro k hk
  have go : (rd.get k ≠ none ∨ wr.get k ≠ none) ∨ k / 4096 = i := by
    rcases hk with hk | hk
    · exact (h3 k hk).imp .inl id
    · exact (h4 k hk).imp .inr id
  rcases go with h | h
  · exact (cl k h).imp (h1 _) (h2 _)
  · rw [h]; exact h5

/-- A run hangs on what it touched: in another heap that is alike there it answers the same. -/
structure LocAt {α : Type} (m : EM α) (s : HS) (a : α) (s' : HS) : Prop where
  wf : WF s'
  wm : s'.wm = s.wm
  nx : s.nx ≤ s'.nx
  rd : ∀ k, s.rd.get k ≠ none → s'.rd.get k ≠ none
  wr : ∀ k, s.wr.get k ≠ none → s'.wr.get k ≠ none
  keep : ∀ k, k / 4096 < s.wm → s'.wr.get k = none → view s'.h k = view s.h k
  again : ∀ t : HS, t.nx = s.nx → t.wm = s.wm → t.rd = s.rd → t.wr = s.wr →
    (∀ k, k / 4096 < s.wm → (s'.rd.get k ≠ none ∨ s'.wr.get k ≠ none) → view t.h k = view s.h k) →
    (∀ i, s.wm ≤ i → i < s.nx → t.h.get i = s.h.get i) →
    ∃ t', m t = some (a, t') ∧ t'.nx = s'.nx ∧ t'.wm = s'.wm ∧ t'.rd = s'.rd ∧ t'.wr = s'.wr ∧
      (∀ k, k / 4096 < s.wm → s'.wr.get k ≠ none → view t'.h k = view s'.h k) ∧
      (∀ k, k / 4096 < s.wm → s'.wr.get k = none → view t'.h k = view t.h k) ∧
      (∀ i, s.wm ≤ i → i < s'.nx → t'.h.get i = s'.h.get i) ∧
      (∀ i, s'.nx ≤ i → t'.h.get i = t.h.get i)

def Loc0 {α : Type} (m : EM α) : Prop := ∀ s a s', WF s → m s = some (a, s') → LocAt m s a s'

variable {α β : Type}

theorem Loc0.of_still {m : EM α} (h : ∀ s a s', m s = some (a, s') → s' = s ∧ ∀ t : HS, m t = some (a, t)) : Loc0 m := by
  intro s a s' wf hm
  obtain ⟨rfl, ht⟩ := h s a s' hm
  exact ⟨wf, rfl, Nat.le_refl _, fun _ h => h, fun _ h => h, fun _ _ _ => rfl, fun t h1 h2 h3 h4 h5 h6 =>
    ⟨t, ht t, h1, h2, h3, h4, fun k hk hw => h5 k hk (.inr hw), fun _ _ _ => rfl, h6, fun _ _ => rfl⟩⟩

theorem Loc0.pure (a : α) : Loc0 (EM.pure a) := .of_still fun s b s' h => by
  simp only [EM.pure, Option.some.injEq, Prod.mk.injEq] at h
  obtain ⟨rfl, rfl⟩ := h
  exact ⟨rfl, fun _ => rfl⟩

theorem Loc0.fail : Loc0 (EM.fail : EM α) := fun s a s' _ h => by simp [EM.fail] at h

theorem Loc0.lift (x : Option α) : Loc0 (EM.lift x) := .of_still fun s b s' h => by
  cases x with
  | none => simp [EM.lift] at h
  | some y =>
    simp only [EM.lift, Opt.go_some, Option.some.injEq, Prod.mk.injEq] at h
    obtain ⟨rfl, rfl⟩ := h
    exact ⟨rfl, fun _ => rfl⟩

theorem Loc0.have {x : Option α} {f : α → EM β} (hf : ∀ a, x = some a → Loc0 (f a)) : Loc0 (EM.have x f) := by
  cases x with
  | none => intro s a s' _ h; simp [EM.have] at h
  | some y => exact hf y rfl

theorem Loc0.need {b : Bool} {m : EM α} (h : b = true → Loc0 m) : Loc0 (EM.need b m) := by
  cases b with
  | false => intro s a s' _ h; simp [EM.need] at h
  | true => exact h rfl

theorem Loc0.ite {b : Bool} {m m' : EM α} (h : b = true → Loc0 m) (h' : b = false → Loc0 m') : Loc0 (bif b then m else m') := by
  cases b with
  | false => exact h' rfl
  | true => exact h rfl

theorem Loc0.bind {m : EM α} {f : α → EM β} (hm : Loc0 m) (hf : ∀ a, Loc0 (f a)) : Loc0 (EM.bind m f) := by
  intro s b s' wf h
  unfold EM.bind at h
  rw [Opt.go_eq] at h
  obtain ⟨⟨a, s1⟩, hms, h'⟩ := h
  have A := hm s a s1 wf hms
  have B := hf a s1 b s' A.wf h'
  refine ⟨B.wf, B.wm.trans A.wm, Nat.le_trans A.nx B.nx, fun k hk => B.rd k (A.rd k hk), fun k hk => B.wr k (A.wr k hk), fun k hk hw => ?_, fun t hn hwm hr hw ht hf' => ?_⟩
  · have h1 : s1.wr.get k = none := by
      cases hx : s1.wr.get k with
      | none => rfl
      | some u => exact absurd hw (B.wr k (by rw [hx]; simp))
    rw [B.keep k (by rw [A.wm]; exact hk) hw, A.keep k hk h1]
  · obtain ⟨t1, e1, a1, a2, a3, a4, a5, a6, a7, a8⟩ := A.again t hn hwm hr hw (fun k hk hi => ht k hk (hi.imp (B.rd k) (B.wr k))) hf'
    obtain ⟨t2, e2, b1, b2, b3, b4, b5, b6, b7, b8⟩ := B.again t1 a1 a2 a3 a4 (fun k hk hi => by
        rw [A.wm] at hk
        cases hx : s1.wr.get k with
        | some u => exact a5 k hk (by rw [hx]; simp)
        | none => rw [a6 k hk hx, ht k hk hi, A.keep k hk hx]) (fun i hi hi' => a7 i (by rw [← A.wm]; exact hi) hi')
    refine ⟨t2, ?_, b1, b2, b3, b4, fun k hk hi => b5 k (by rw [A.wm]; exact hk) hi, fun k hk hi => ?_, fun i hi hi' => b7 i (by rw [A.wm]; exact hi) hi', fun i hi => ?_⟩
    · unfold EM.bind; rw [e1]; exact e2
    · have h1 : s1.wr.get k = none := by
        cases hx : s1.wr.get k with
        | none => rfl
        | some u => exact absurd hi (B.wr k (by rw [hx]; simp))
      rw [b6 k (by rw [A.wm]; exact hk) hi, a6 k hk h1]
    · rw [b8 i hi, a8 i (Nat.le_trans B.nx hi)]

/-! ### The places of the heap -/
theorem cells_strip : ∀ (o : IObj) (c : List Value) (e : TypeId) (l r t : Bool), strip o = .cells c e l r t → ∃ c', o = .cells c' e l r t ∧ c = c'.map fun _ => .nilFunc := by
  intro o c e l r t h
  cases o <;> simp [strip] at h
  obtain ⟨rfl, rfl, rfl, rfl, rfl⟩ := h
  exact ⟨_, rfl, rfl⟩

theorem strip_cellsIn {o o' : IObj} (h : strip o = strip o') : (cellsIn o).map List.length = (cellsIn o').map List.length := by
  cases o <;> cases o' <;> simp [strip] at h <;> simp [cellsIn]
  obtain ⟨h, -⟩ := h
  have := congrArg List.length h
  simpa using this

theorem strip_of_none {o : IObj} (h : cellsIn o = none) : strip o = o := by cases o <;> simp [cellsIn] at h <;> rfl

theorem strip_none {o o' : IObj} (h : strip o = strip o') (hc : cellsIn o = none) : o' = o := by
  cases o <;> cases o' <;> simp_all [strip, cellsIn]

theorem takeAt_iff : ∀ (c : List Value) (o n : Nat) (l : List Value), takeAt c o n = some l ↔ (l.length = n ∧ o + n ≤ c.length ∧ ∀ k, k < n → c[o + k]? = l[k]?) := by
  intro c
  induction c with
  | nil =>
    intro o n l
    cases o <;> cases n <;> simp [takeAt, eq_comm]
  | cons v c ih =>
    intro o n l
    cases o with
    | zero =>
      cases n with
      | zero =>
        simp [takeAt, eq_comm]
      | succ n =>
        simp only [takeAt, Opt.go_eq]
        constructor
        · rintro ⟨r, hr, h⟩
          obtain rfl := Option.some.inj h
          obtain ⟨h1, h2, h3⟩ := (ih 0 n r).1 hr
          refine ⟨by simp [h1], by simp; omega, fun k hk => ?_⟩
          cases k with
          | zero => simp
          | succ k => have := h3 k (by omega); simpa using this
        · rintro ⟨h1, h2, h3⟩
          cases l with
          | nil => simp at h1
          | cons x r =>
            refine ⟨r, (ih 0 n r).2 ⟨by simpa using h1, by simp at h2 ⊢; omega, fun k hk => ?_⟩, ?_⟩
            · have := h3 (k + 1) (by omega); simpa using this
            · have := h3 0 (by omega); simp at this; rw [this]
    | succ o =>
      simp only [takeAt]
      rw [ih o n l]
      constructor
      · rintro ⟨h1, h2, h3⟩
        exact ⟨h1, by simp; omega, fun k hk => by have := h3 k hk; rw [show o + 1 + k = (o + k) + 1 by omega]; simpa using this⟩
      · rintro ⟨h1, h2, h3⟩
        exact ⟨h1, by simp at h2; omega, fun k hk => by have := h3 k hk; rw [show o + 1 + k = (o + k) + 1 by omega] at this; simpa using this⟩

theorem putAt_iff : ∀ (c : List Value) (o : Nat) (vs c' : List Value), putAt c o vs = some c' ↔ (o + vs.length ≤ c.length ∧ c'.length = c.length ∧ ∀ k, c'[k]? = if o ≤ k ∧ k < o + vs.length then vs[k - o]? else c[k]?) := by
  intro c
  induction c with
  | nil =>
    intro o vs c'
    cases o <;> cases vs <;> simp [putAt]
    rintro rfl; simp
  | cons v c ih =>
    intro o vs c'
    cases o with
    | zero =>
      cases vs with
      | nil =>
        simp only [putAt]
        constructor
        · intro h; obtain rfl := Option.some.inj h; simp
        · rintro ⟨_, h2, h3⟩
          congr 1
          apply List.ext_getElem? 
          intro k
          have := h3 k
          rw [if_neg (by simp)] at this
          exact this.symm
      | cons x vs =>
        simp only [putAt, Opt.go_eq]
        constructor
        · rintro ⟨r, hr, h⟩
          obtain rfl := Option.some.inj h
          obtain ⟨h1, h2, h3⟩ := (ih 0 vs r).1 hr
          refine ⟨by simp at h1 ⊢; omega, by simp [h2], fun k => ?_⟩
          cases k with
          | zero => simp
          | succ k => have := h3 k; simpa using this
        · rintro ⟨h1, h2, h3⟩
          cases c' with
          | nil => simp at h2
          | cons y r =>
            refine ⟨r, (ih 0 vs r).2 ⟨by simp at h1 ⊢; omega, by simpa using h2, fun k => ?_⟩, ?_⟩
            · have := h3 (k + 1); simpa using this
            · have := h3 0; simp at this; rw [this]
    | succ o =>
      simp only [putAt, Opt.go_eq]
      constructor
      · rintro ⟨r, hr, h⟩
        obtain rfl := Option.some.inj h
        obtain ⟨h1, h2, h3⟩ := (ih o vs r).1 hr
        refine ⟨by simp; omega, by simp [h2], fun k => ?_⟩
        cases k with
        | zero => simp
        | succ k =>
          have := h3 k
          simp only [List.getElem?_cons_succ, this]
          have e : (o + 1 ≤ k + 1 ∧ k + 1 < o + 1 + vs.length) ↔ (o ≤ k ∧ k < o + vs.length) := by omega
          simp only [e, Nat.add_sub_add_right]
      · rintro ⟨h1, h2, h3⟩
        cases c' with
        | nil => simp at h2
        | cons y r =>
          refine ⟨r, (ih o vs r).2 ⟨by simp at h1; omega, by simpa using h2, fun k => ?_⟩, ?_⟩
          · have := h3 (k + 1)
            simp only [List.getElem?_cons_succ] at this
            rw [this]
            have e : (o + 1 ≤ k + 1 ∧ k + 1 < o + 1 + vs.length) ↔ (o ≤ k ∧ k < o + vs.length) := by omega
            simp only [e, Nat.add_sub_add_right]
          · have := h3 0; simp at this; rw [this]

theorem Loc0.hget (i : Nat) : Loc0 (hget i) := by
  intro s a s' wf h
  unfold Go.Ideal.hget at h
  cases hb : Nat.ble s.wm i with
  | true =>
    simp only [hb, cond_true, Opt.go_eq] at h
    obtain ⟨o, ho, h⟩ := h
    simp only [Option.some.injEq, Prod.mk.injEq] at h
    obtain ⟨rfl, rfl⟩ := h
    have hi : s.wm ≤ i := Nat.le_of_ble_eq_true hb
    have hlt : i < s.nx := Nat.lt_of_not_le fun hge => by rw [wf.free i hge] at ho; cases ho
    refine ⟨wf, rfl, Nat.le_refl _, fun _ h => h, fun _ h => h, fun _ _ _ => rfl, fun t h1 h2 h3 h4 h5 h6 => ?_⟩
    refine ⟨t, ?_, h1, h2, h3, h4, fun k hk hw => h5 k hk (.inr hw), fun _ _ _ => rfl, h6, fun _ _ => rfl⟩
    unfold Go.Ideal.hget
    rw [h2, hb, cond_true, h6 i hi hlt, ho]; rfl
  | false =>
    simp only [hb, cond_false, Opt.go_eq] at h
    obtain ⟨o, ho, h⟩ := h
    simp only [Option.some.injEq, Prod.mk.injEq] at h
    obtain ⟨rfl, rfl⟩ := h
    have hi : i < s.wm := Nat.lt_of_not_le fun hge => by rw [Nat.ble_eq_true_of_le hge] at hb; cases hb
    have hi2 : i ≤ 200000 := by have := wf.le; have := wf.lim; omega
    have hset : ∀ k, (s.rd.set (key i 0) (some ())).get k = if k = key i 0 then some () else s.rd.get k := fun k => Tr.get_set _ _ _ _ (by rw [key_eq]; omega)
    refine ⟨⟨wf.le, wf.lim, wf.free, wf.short, cl_mark (i := i) wf.cl (fun k hk => by rw [hset]; split <;> simp [hk]) (fun _ h => h) (fun k hk => by
        rw [hset] at hk
        by_cases hki : k = key i 0
        · exact .inr (by rw [hki]; exact key_div _ _ (by omega))
        · rw [if_neg hki] at hk; exact .inl hk) (fun _ h => .inl h) (.inl (by rw [hset, if_pos rfl]; simp))⟩, rfl, Nat.le_refl _, fun k hk => ?_, fun _ h => h, fun _ _ _ => rfl, fun t h1 h2 h3 h4 h5 h6 => ?_⟩
    · show (s.rd.set (key i 0) (some ())).get k ≠ none
      rw [hset]; split <;> simp [hk]
    · have hv := h5 (key i 0) (by rw [key_div _ _ (by omega)]; exact hi) (.inl (by show (s.rd.set (key i 0) (some ())).get _ ≠ none; rw [hset]; simp))
      rw [view_key0, view_key0] at hv
      have hv' : (t.h.get i).map strip = some (strip o) := by rw [ho] at hv; exact Sum.inl.inj hv
      cases ht : t.h.get i with
      | none => rw [ht] at hv'; cases hv'
      | some o' =>
        rw [ht] at hv'
        have hs : strip o' = strip o := Option.some.inj hv'
        refine ⟨{ t with rd := t.rd.set (key i 0) (some ()) }, ?_, h1, h2, ?_, h4, fun k hk hw => h5 k hk (.inr hw), fun _ _ _ => rfl, h6, fun _ _ => rfl⟩
        · unfold Go.Ideal.hget
          rw [h2, hb, cond_false, ht, Opt.go_some, hs]
        · show t.rd.set _ _ = s.rd.set _ _; rw [h3]

theorem view_inl_get {h h' : Tr IObj} {i : Nat} (hv : view h (key i 0) = view h' (key i 0)) : (h.get i).map strip = (h'.get i).map strip := by
  rw [view_key0, view_key0] at hv; exact Sum.inl.inj hv

theorem get_of_view {h h' : Tr IObj} {i : Nat} {x : IObj} (hv : view h (key i 0) = view h' (key i 0)) (hx : h'.get i = some x) : ∃ y, h.get i = some y ∧ strip y = strip x := by
  have e := view_inl_get hv
  rw [hx] at e
  cases hy : h.get i with
  | none => rw [hy] at e; cases e
  | some y => rw [hy] at e; exact ⟨y, rfl, Option.some.inj e⟩

theorem cells_of_strip {y x : IObj} {c : List Value} (h : strip y = strip x) (hc : cellsIn x = some c) : ∃ c', cellsIn y = some c' ∧ c'.length = c.length := by
  have e := strip_cellsIn h
  rw [hc] at e
  cases hy : cellsIn y with
  | none => rw [hy] at e; cases e
  | some c' => rw [hy] at e; exact ⟨c', rfl, Option.some.inj e⟩

theorem view_cell {h h' : Tr IObj} {i o : Nat} {x y : IObj} {c c' : List Value} (ho : o < 4095) (hv : view h (key i (o + 1)) = view h' (key i (o + 1)))
    (hx : h'.get i = some x) (hy : h.get i = some y) (hc : cellsIn x = some c) (hc' : cellsIn y = some c') : c'[o]? = c[o]? := by
  rw [view_keyS _ _ _ ho, view_keyS _ _ _ ho, hx, hy] at hv
  simp only [Option.bind_some, hc, hc'] at hv
  exact Sum.inr.inj hv

theorem ble_false {a b : Nat} (h : Nat.ble a b = false) : b < a := Nat.lt_of_not_le fun hge => by rw [Nat.ble_eq_true_of_le hge] at h; cases h

theorem Loc0.hread (i o n : Nat) : Loc0 (hread i o n) := by
  intro s a s' wf h
  unfold Go.Ideal.hread at h
  simp only [Opt.go_eq] at h
  obtain ⟨x, hx, c, hc, l, hl, h⟩ := h
  cases hbd : Nat.ble bound (o + n) with
  | true => rw [show bound.ble (Nat.add o n) = true from hbd] at h; simp at h
  | false =>
    have hon : o + n < 4090 := ble_false hbd
    have hbd' : bound.ble (Nat.add o n) = false := hbd
    rw [hbd', cond_false] at h
    have hlt : i < s.nx := Nat.lt_of_not_le fun hge => by rw [wf.free i hge] at hx; cases hx
    cases hb : Nat.ble s.wm i with
    | true =>
      simp only [hb, cond_true, Option.some.injEq, Prod.mk.injEq] at h
      obtain ⟨rfl, rfl⟩ := h
      have hi : s.wm ≤ i := Nat.le_of_ble_eq_true hb
      refine ⟨wf, rfl, Nat.le_refl _, fun _ h => h, fun _ h => h, fun _ _ _ => rfl, fun t h1 h2 h3 h4 h5 h6 => ?_⟩
      refine ⟨t, ?_, h1, h2, h3, h4, fun k hk hw => h5 k hk (.inr hw), fun _ _ _ => rfl, h6, fun _ _ => rfl⟩
      unfold Go.Ideal.hread
      simp only [h2, hb, cond_true, h6 i hi hlt, hx, Opt.go_some, hc, hl]; rw [hbd', cond_false]
    | false =>
      simp only [hb, cond_false, Option.some.injEq, Prod.mk.injEq] at h
      obtain ⟨rfl, rfl⟩ := h
      have hi : i < s.wm := ble_false hb
      have hi2 : i ≤ 200000 := by have := wf.le; have := wf.lim; omega
      have hmk := fun (t : Tr Unit) k => markR_get i n o (t.set (key i 0) (some ())) k hi2 (by omega)
      have hset : ∀ (t : Tr Unit) k, (t.set (key i 0) (some ())).get k = if k = key i 0 then some () else t.get k := fun t k => Tr.get_set _ _ _ _ (by rw [key_eq]; omega)
      refine ⟨⟨wf.le, wf.lim, wf.free, wf.short, cl_mark (i := i) wf.cl (fun k hk => (hmk _ k).2 (.inr (by rw [hset]; split <;> simp [hk]))) (fun _ h => h) (fun k hk => by
        rcases (hmk _ k).1 hk with ⟨j, hj, rfl⟩ | hk
        · exact .inr (key_div _ _ (by omega))
        · rw [hset] at hk
          by_cases hki : k = key i 0
          · exact .inr (by rw [hki]; exact key_div _ _ (by omega))
          · rw [if_neg hki] at hk; exact .inl hk) (fun _ h => .inl h) (.inl ((hmk _ _).2 (.inr (by rw [hset, if_pos rfl]; simp))))⟩, rfl, Nat.le_refl _, fun k hk => (hmk _ k).2 (.inr (by rw [hset]; split <;> simp [hk])), fun _ h => h, fun _ _ _ => rfl, fun t h1 h2 h3 h4 h5 h6 => ?_⟩
      have h5' : ∀ k, k / 4096 < s.wm → ((∃ j, j < n ∧ k = key i (o + j + 1)) ∨ k = key i 0) → view t.h k = view s.h k := fun k hk hh =>
        h5 k hk (.inl ((hmk _ k).2 (hh.imp id fun e => by rw [hset, if_pos e]; simp)))
      obtain ⟨y, hy, hs⟩ := get_of_view (h5' (key i 0) (by rw [key_div _ _ (by omega)]; exact hi) (.inr rfl)) hx
      obtain ⟨c', hc', hlen⟩ := cells_of_strip hs hc
      obtain ⟨l1, l2, l3⟩ := (takeAt_iff _ _ _ _).1 hl
      have hl' : takeAt c' o n = some l := (takeAt_iff _ _ _ _).2 ⟨l1, by rw [hlen]; exact l2, fun k hk => by
        rw [← l3 k hk]
        exact view_cell (by omega) (h5' (key i (o + k + 1)) (by rw [key_div _ _ (by omega)]; exact hi) (.inl ⟨k, hk, rfl⟩)) hx hy hc hc'⟩
      refine ⟨{ t with rd := Go.Ideal.markR i n o (t.rd.set (key i 0) (some ())) }, ?_, h1, h2, ?_, h4, fun k hk hw => h5 k hk (.inr hw), fun _ _ _ => rfl, h6, fun _ _ => rfl⟩
      · unfold Go.Ideal.hread
        simp only [h2, hb, hy, Opt.go_some, hc', hl', cond_false]; rw [hbd', cond_false]
      · show Go.Ideal.markR _ _ _ _ = Go.Ideal.markR _ _ _ _; rw [h3]

theorem get_set_h (h : Tr IObj) (i j : Nat) (o : Option IObj) (hi : i ≤ 200000) : (h.set i o).get j = if j = i then o else h.get j := Tr.get_set _ _ _ _ (by omega)

theorem view_set_ne {h : Tr IObj} {i k : Nat} {o : Option IObj} (hi : i ≤ 200000) (hk : k / 4096 ≠ i) : view (h.set i o) k = view h k :=
  view_of_get (by rw [get_set_h _ _ _ _ hi, if_neg hk])

theorem short_set {h : Tr IObj} {i : Nat} {o : IObj} (hi : i ≤ 200000) (hs : ∀ i x c, h.get i = some x → cellsIn x = some c → c.length < 4095)
    (ho : ∀ c, cellsIn o = some c → c.length < 4095) : ∀ j x c, (h.set i (some o)).get j = some x → cellsIn x = some c → c.length < 4095 := by
  intro j x c hx hc
  rw [get_set_h _ _ _ _ hi] at hx
  split at hx
  · obtain rfl := Option.some.inj hx; exact ho c hc
  · exact hs j x c hx hc

theorem Loc0.hnew (o : IObj) (ho : ∀ c, cellsIn o = some c → c.length < 4095) : Loc0 (hnew o) := by
  intro s a s' wf h
  unfold Go.Ideal.hnew at h
  cases hb : Nat.ble 200000 s.nx with
  | true => rw [hb] at h; simp at h
  | false =>
    have hlt : s.nx < 200000 := ble_false hb
    rw [hb, cond_false, force_eq] at h
    simp only [Option.some.injEq, Prod.mk.injEq] at h
    obtain ⟨rfl, rfl⟩ := h
    have hle : s.nx ≤ 200000 := by omega
    have hwm := wf.le
    refine ⟨⟨Nat.le_succ_of_le wf.le, hlt, fun i hi => ?_, short_set hle wf.short ho, wf.cl⟩, rfl, Nat.le_succ _, fun _ h => h, fun _ h => h, fun k hk _ => ?_, fun t h1 h2 h3 h4 h5 h6 => ?_⟩
    · show (s.h.set s.nx (some o)).get i = none
      have hi' : s.nx + 1 ≤ i := hi
      rw [get_set_h _ _ _ _ hle, if_neg (by omega)]; exact wf.free i (by omega)
    · exact view_set_ne hle (by omega)
    · refine ⟨{ t with h := t.h.set t.nx (some o), nx := Nat.succ t.nx }, ?_, by show t.nx + 1 = s.nx + 1; rw [h1], h2, h3, h4, fun k hk hw => ?_, fun k hk _ => ?_, fun i hi hi' => ?_, fun i hi => ?_⟩
      · unfold Go.Ideal.hnew
        rw [h1, hb, cond_false, force_eq]
      · show view (t.h.set t.nx (some o)) k = view (s.h.set s.nx (some o)) k
        rw [h1, view_set_ne hle (by omega), view_set_ne hle (by omega)]; exact h5 k hk (.inr hw)
      · show view (t.h.set t.nx (some o)) k = _
        rw [h1, view_set_ne hle (by omega)]
      · show (t.h.set t.nx (some o)).get i = (s.h.set s.nx (some o)).get i
        have hi'' : i < s.nx + 1 := hi'
        rw [h1, get_set_h _ _ _ _ hle, get_set_h _ _ _ _ hle]
        split
        · rfl
        · exact h6 i hi (by omega)
      · show (t.h.set t.nx (some o)).get i = _
        have hi'' : s.nx + 1 ≤ i := hi
        rw [h1, get_set_h _ _ _ _ hle, if_neg (by omega)]

theorem set_key0 (t : Tr Unit) (i k : Nat) (hi : i ≤ 200000) : (t.set (key i 0) (some ())).get k ≠ none ↔ k = key i 0 ∨ t.get k ≠ none := by
  rw [Tr.get_set _ _ _ _ (by rw [key_eq]; omega)]
  by_cases h : k = key i 0 <;> simp [h]

/-- One object is laid anew; what is marked as written covers all that is another one then. -/
theorem loc_put {m : EM α} {s : HS} {a : α} {i : Nat} {x x' : IObj} (mk : Tr Unit → Tr Unit) (mr : Tr Unit → Tr Unit) (wf : WF s) (hx : s.h.get i = some x) (hsh : ∀ c, cellsIn x' = some c → c.length < 4095)
    (hmk : i ≤ 200000 → ∀ t k, t.get k ≠ none → (mk t).get k ≠ none) (hmr : i ≤ 200000 → ∀ t k, t.get k ≠ none → (mr t).get k ≠ none)
    (hcl : i ≤ 200000 → (∀ k, (mr s.rd).get k ≠ none → s.rd.get k ≠ none ∨ k / 4096 = i) ∧ (∀ k, (mk s.wr).get k ≠ none → s.wr.get k ≠ none ∨ k / 4096 = i) ∧ ((mr s.rd).get (key i 0) ≠ none ∨ (mk s.wr).get (key i 0) ≠ none))
    (hkeep : i < s.wm → ∀ k, k / 4096 = i → (mk s.wr).get k = none → view (s.h.set i (some x')) k = view s.h k)
    (_hm : m s = some (a, bif Nat.ble s.wm i then { s with h := s.h.set i (some x') } else { s with h := s.h.set i (some x'), rd := mr s.rd, wr := mk s.wr }))
    (hag : ∀ t : HS, t.wm = s.wm → (s.wm ≤ i → t.h.get i = some x) →
      (i < s.wm → ∀ k, k / 4096 = i → ((mr s.rd).get k ≠ none ∨ (mk s.wr).get k ≠ none) → view t.h k = view s.h k) →
      ∃ y', m t = some (a, bif Nat.ble t.wm i then { t with h := t.h.set i (some y') } else { t with h := t.h.set i (some y'), rd := mr t.rd, wr := mk t.wr }) ∧
        (s.wm ≤ i → y' = x') ∧
        (i < s.wm → ∀ k, k / 4096 = i → (mk s.wr).get k ≠ none → view (t.h.set i (some y')) k = view (s.h.set i (some x')) k) ∧
        (i < s.wm → ∀ k, k / 4096 = i → (mk s.wr).get k = none → view (t.h.set i (some y')) k = view t.h k)) :
    LocAt m s a (bif Nat.ble s.wm i then { s with h := s.h.set i (some x') } else { s with h := s.h.set i (some x'), rd := mr s.rd, wr := mk s.wr }) := by
  have hlt : i < s.nx := Nat.lt_of_not_le fun hge => by rw [wf.free i hge] at hx; cases hx
  have hi2 : i ≤ 200000 := by have := wf.lim; omega
  have hfree : ∀ j, s.nx ≤ j → (s.h.set i (some x')).get j = none := fun j hj => by
    rw [get_set_h _ _ _ _ hi2, if_neg (by omega)]; exact wf.free j hj
  cases hb : Nat.ble s.wm i with
  | true =>
    have hi : s.wm ≤ i := Nat.le_of_ble_eq_true hb
    simp only [cond_true]
    refine ⟨⟨wf.le, wf.lim, hfree, short_set hi2 wf.short hsh, wf.cl⟩, rfl, Nat.le_refl _, fun _ h => h, fun _ h => h, fun k hk _ => view_set_ne hi2 (by omega), fun t h1 h2 h3 h4 h5 h6 => ?_⟩
    obtain ⟨y', e1, e2, -, -⟩ := hag t h2 (fun h => by rw [h6 i h hlt, hx]) (fun h => absurd hi (by omega))
    have hb' : Nat.ble t.wm i = true := by rw [h2]; exact hb
    rw [hb', cond_true] at e1
    refine ⟨_, e1, h1, h2, h3, h4, fun k hk hw => ?_, fun k hk _ => view_set_ne hi2 (by omega), fun j hj hj' => ?_, fun j hj => ?_⟩
    · show view (t.h.set i (some y')) k = view (s.h.set i (some x')) k
      rw [view_set_ne hi2 (by omega), view_set_ne hi2 (by omega)]; exact h5 k hk (.inr hw)
    · show (t.h.set i (some y')).get j = (s.h.set i (some x')).get j
      rw [get_set_h _ _ _ _ hi2, get_set_h _ _ _ _ hi2, e2 hi]
      split
      · rfl
      · exact h6 j hj hj'
    · show (t.h.set i (some y')).get j = _
      have hj' : s.nx ≤ j := hj
      rw [get_set_h _ _ _ _ hi2, if_neg (by omega)]
  | false =>
    have hi : i < s.wm := ble_false hb
    simp only [cond_false]
    refine ⟨⟨wf.le, wf.lim, hfree, short_set hi2 wf.short hsh, cl_mark (i := i) wf.cl (hmr hi2 _) (hmk hi2 _) (hcl hi2).1 (hcl hi2).2.1 (hcl hi2).2.2⟩, rfl, Nat.le_refl _, hmr hi2 _, hmk hi2 _, fun k hk hw => ?_, fun t h1 h2 h3 h4 h5 h6 => ?_⟩
    · by_cases hki : k / 4096 = i
      · exact hkeep hi k hki hw
      · exact view_set_ne hi2 hki
    · obtain ⟨y', e1, -, e3, e4⟩ := hag t h2 (fun h => absurd hi (by omega)) (fun _ k hk hh => h5 k (by rw [hk]; exact hi) hh)
      have hb' : Nat.ble t.wm i = false := by rw [h2]; exact hb
      rw [hb', cond_false] at e1
      refine ⟨_, e1, h1, h2, by show mr t.rd = mr s.rd; rw [h3], by show mk t.wr = mk s.wr; rw [h4], fun k hk hw => ?_, fun k hk hw => ?_, fun j hj hj' => ?_, fun j hj => ?_⟩
      · show view (t.h.set i (some y')) k = view (s.h.set i (some x')) k
        by_cases hki : k / 4096 = i
        · exact e3 hi k hki hw
        · rw [view_set_ne hi2 hki, view_set_ne hi2 hki]; exact h5 k hk (.inr hw)
      · show view (t.h.set i (some y')) k = _
        by_cases hki : k / 4096 = i
        · exact e4 hi k hki hw
        · exact view_set_ne hi2 hki
      · show (t.h.set i (some y')).get j = (s.h.set i (some x')).get j
        rw [get_set_h _ _ _ _ hi2, get_set_h _ _ _ _ hi2, if_neg (by omega), if_neg (by omega)]
        exact h6 j hj hj'
      · show (t.h.set i (some y')).get j = _
        have hj' : s.nx ≤ j := hj
        have := wf.le
        rw [get_set_h _ _ _ _ hi2, if_neg (by omega)]

theorem view_set_eq {h : Tr IObj} {i k : Nat} {o : IObj} (hi : i ≤ 200000) (hk : k / 4096 = i) :
    view (h.set i (some o)) k = if k % 4096 = 0 then .inl (some (strip o)) else .inr ((cellsIn o).bind fun c => c[k % 4096 - 1]?) := by
  unfold view
  rw [hk, get_set_h _ _ _ _ hi, if_pos rfl]; rfl

theorem view_eq {h : Tr IObj} {i k : Nat} {o : IObj} (ho : h.get i = some o) (hk : k / 4096 = i) :
    view h k = if k % 4096 = 0 then .inl (some (strip o)) else .inr ((cellsIn o).bind fun c => c[k % 4096 - 1]?) := by
  unfold view
  rw [hk, ho]; rfl

theorem Loc0.hset (i : Nat) (o : IObj) : Loc0 (hset i o) := by
  intro s a s' wf h
  unfold Go.Ideal.hset at h
  simp only [Opt.go_eq] at h
  obtain ⟨x, hx, h⟩ := h
  cases hc : (cellsIn x).isSome || (cellsIn o).isSome with
  | true => simp [hc] at h
  | false =>
    simp only [hc, cond_false] at h
    have hc' : cellsIn x = none ∧ cellsIn o = none := by simpa using hc
    have hs' : s' = (bif Nat.ble s.wm i then { s with h := s.h.set i (some o) } else { s with h := s.h.set i (some o), rd := (fun t => t) s.rd, wr := (fun t => t.set (key i 0) (some ())) s.wr }) ∧ a = () := by
      cases hb : Nat.ble s.wm i <;> simp only [hb, cond_true, cond_false, Option.some.injEq, Prod.mk.injEq] at h ⊢ <;> exact ⟨h.2.symm, trivial⟩
    obtain ⟨rfl, rfl⟩ := hs'
    have hi2 : i < s.wm → i ≤ 200000 := fun hi => by have := wf.le; have := wf.lim; omega
    refine loc_put (fun t => t.set (key i 0) (some ())) (fun t => t) wf hx (fun c hcc => by rw [hc'.2] at hcc; cases hcc) (fun hi t k hk => (set_key0 t i k hi).2 (.inr hk)) (fun _ _ _ h => h) (fun hi => ⟨fun _ h => .inl h, fun k hk => by
      rcases (set_key0 _ i k hi).1 hk with rfl | hk
      · exact .inr (key_div _ _ (by omega))
      · exact .inl hk, .inr ((set_key0 _ i _ hi).2 (.inl rfl))⟩) (fun hi k hki hw => ?_) ?_ (fun t h2 hge hlt => ?_)
    · rw [view_set_eq (hi2 hi) hki, view_eq hx hki]
      by_cases hk0 : k % 4096 = 0
      · have e : k = key i 0 := by rw [key_eq]; omega
        exact absurd ((set_key0 s.wr i k (hi2 hi)).2 (.inl e)) (by simp [hw])
      · simp [hk0, hc'.1, hc'.2]
    · unfold Go.Ideal.hset
      simp only [hx, Opt.go_some, hc, cond_false]
      cases Nat.ble s.wm i <;> rfl
    · have hy : t.h.get i = some x := by
        by_cases hi : s.wm ≤ i
        · exact hge hi
        · have hi' : i < s.wm := by omega
          obtain ⟨y, hy, hs⟩ := get_of_view (hlt hi' (key i 0) (key_div _ _ (by omega)) (.inr ((set_key0 s.wr i _ (hi2 hi')).2 (.inl rfl)))) hx
          rw [hy, strip_none hs.symm hc'.1]
      refine ⟨o, ?_, fun _ => rfl, fun hi k hki _ => ?_, fun hi k hki hw => ?_⟩
      · unfold Go.Ideal.hset
        simp only [hy, Opt.go_some, hc, cond_false]
        cases Nat.ble t.wm i <;> rfl
      · rw [view_set_eq (hi2 hi) hki, view_set_eq (hi2 hi) hki]
      · rw [view_set_eq (hi2 hi) hki, view_eq hy hki]
        by_cases hk0 : k % 4096 = 0
        · have e : k = key i 0 := by rw [key_eq]; omega
          exact absurd ((set_key0 s.wr i k (hi2 hi)).2 (.inl e)) (by simp [hw])
        · simp [hk0, hc'.1, hc'.2]

theorem Loc0.hkill (i : Nat) : Loc0 (hkill i) := by
  intro s a s' wf h
  unfold Go.Ideal.hkill at h
  simp only [Opt.go_eq] at h
  obtain ⟨x, hx, c, hc, h⟩ := h
  cases hbd : Nat.ble bound c.length with
  | true => simp [hbd] at h
  | false =>
    have hlen : c.length < 4090 := ble_false hbd
    simp only [hbd, cond_false] at h
    have hs' : s' = (bif Nat.ble s.wm i then { s with h := s.h.set i (some .dead) } else { s with h := s.h.set i (some .dead), rd := (fun t => t) s.rd, wr := (fun t => markR i c.length 0 (t.set (key i 0) (some ()))) s.wr }) ∧ a = () := by
      cases hb : Nat.ble s.wm i <;> simp only [hb, cond_true, cond_false, Option.some.injEq, Prod.mk.injEq] at h ⊢ <;> exact ⟨h.2.symm, trivial⟩
    obtain ⟨rfl, rfl⟩ := hs'
    have hi2 : i < s.wm → i ≤ 200000 := fun hi => by have := wf.le; have := wf.lim; omega
    have hmk := fun (hi : i ≤ 200000) (t : Tr Unit) k => (markR_get i c.length 0 (t.set (key i 0) (some ())) k hi (by omega)).trans (or_congr Iff.rfl (set_key0 t i k hi))
    have out : ∀ k, i ≤ 200000 → k / 4096 = i → (markR i c.length 0 (s.wr.set (key i 0) (some ()))).get k = none → k % 4096 ≠ 0 ∧ c.length ≤ k % 4096 - 1 := fun k hi hki hw => by
      have hn : ¬ _ := fun hh => absurd ((hmk hi s.wr k).2 hh) (by simp [hw])
      refine ⟨fun h0 => hn (.inr (.inl (by rw [key_eq]; omega))), Nat.le_of_not_lt fun hlt => ?_⟩
      by_cases h0 : k % 4096 = 0
      · exact hn (.inr (.inl (by rw [key_eq]; omega)))
      · exact hn (.inl ⟨k % 4096 - 1, hlt, by rw [key_eq]; omega⟩)
    refine loc_put (fun t => markR i c.length 0 (t.set (key i 0) (some ()))) (fun t => t) wf hx (fun c hcc => by cases hcc) (fun hi t k hk => (hmk hi t k).2 (.inr (.inr hk))) (fun _ _ _ h => h) (fun hi => ⟨fun _ h => .inl h, fun k hk => by
      rcases (hmk hi _ k).1 hk with ⟨j, hj, rfl⟩ | rfl | hk
      · exact .inr (key_div _ _ (by omega))
      · exact .inr (key_div _ _ (by omega))
      · exact .inl hk, .inr ((hmk hi _ _).2 (.inr (.inl rfl)))⟩) (fun hi k hki hw => ?_) ?_ (fun t h2 hge hlt => ?_)
    · obtain ⟨h0, h1⟩ := out k (hi2 hi) hki hw
      rw [view_set_eq (hi2 hi) hki, view_eq hx hki, if_neg h0, if_neg h0, hc]
      simp [cellsIn, h1]
    · unfold Go.Ideal.hkill
      simp only [hx, Opt.go_some, hc, hbd, cond_false]
      cases Nat.ble s.wm i <;> rfl
    · have hy : ∃ y c', t.h.get i = some y ∧ cellsIn y = some c' ∧ c'.length = c.length := by
        by_cases hi : s.wm ≤ i
        · exact ⟨x, c, hge hi, hc, rfl⟩
        · have hi' : i < s.wm := by omega
          obtain ⟨y, hy, hs⟩ := get_of_view (hlt hi' (key i 0) (key_div _ _ (by omega)) (.inr ((hmk (hi2 hi') s.wr _).2 (.inr (.inl rfl))))) hx
          obtain ⟨c', h1, h2⟩ := cells_of_strip hs hc
          exact ⟨y, c', hy, h1, h2⟩
      obtain ⟨y, c', hy, hc', hl⟩ := hy
      refine ⟨.dead, ?_, fun _ => rfl, fun hi k hki _ => ?_, fun hi k hki hw => ?_⟩
      · unfold Go.Ideal.hkill
        simp only [hy, Opt.go_some, hc', hl, hbd, cond_false]
        cases Nat.ble t.wm i <;> rfl
      · rw [view_set_eq (hi2 hi) hki, view_set_eq (hi2 hi) hki]
      · obtain ⟨h0, h1⟩ := out k (hi2 hi) hki hw
        rw [view_set_eq (hi2 hi) hki, view_eq hy hki, if_neg h0, if_neg h0, hc']
        simp [cellsIn, hl, h1]

theorem Loc0.hwrite (i o : Nat) (vs : List Value) : Loc0 (hwrite i o vs) := by
  intro s a s' wf h
  unfold Go.Ideal.hwrite at h
  simp only [Opt.go_eq] at h
  obtain ⟨x, hx, h⟩ := h
  cases x with
  | cells c e l ro st =>
    simp only [Opt.go_eq] at h
    obtain ⟨c1, hp, h⟩ := h
    cases hcond : ro || !vs.all cellOk || Nat.ble bound (o + vs.length) with
    | true => rw [show (ro || !vs.all cellOk || bound.ble (Nat.add o vs.length)) = true from hcond] at h; simp at h
    | false =>
      rw [show (ro || !vs.all cellOk || bound.ble (Nat.add o vs.length)) = false from hcond, cond_false] at h
      have hbd : Nat.ble bound (o + vs.length) = false := by
        simp only [Bool.or_eq_false_iff] at hcond; exact hcond.2
      have hlen : o + vs.length < 4090 := ble_false hbd
      have hs' : s' = (bif Nat.ble s.wm i then { s with h := s.h.set i (some (.cells c1 e l ro st)) } else { s with h := s.h.set i (some (.cells c1 e l ro st)), rd := (fun t => t.set (key i 0) (some ())) s.rd, wr := (fun t => markR i vs.length o t) s.wr }) ∧ a = () := by
        cases hb : Nat.ble s.wm i <;> simp only [hb, cond_true, cond_false, Option.some.injEq, Prod.mk.injEq] at h ⊢ <;> exact ⟨h.2.symm, trivial⟩
      obtain ⟨rfl, rfl⟩ := hs'
      have hi2 : i < s.wm → i ≤ 200000 := fun hi => by have := wf.le; have := wf.lim; omega
      have hmk := fun (hi : i ≤ 200000) (t : Tr Unit) k => markR_get i vs.length o t k hi (by omega)
      obtain ⟨p1, p2, p3⟩ := (putAt_iff _ _ _ _).1 hp
      have out : ∀ k, i ≤ 200000 → k / 4096 = i → (markR i vs.length o s.wr).get k = none → k % 4096 ≠ 0 → ¬ (o ≤ k % 4096 - 1 ∧ k % 4096 - 1 < o + vs.length) := fun k hi hki hw h0 hr => by
        exact absurd ((hmk hi s.wr k).2 (.inl ⟨k % 4096 - 1 - o, by omega, by rw [key_eq]; omega⟩)) (by simp [hw])
      refine loc_put (fun t => markR i vs.length o t) (fun t => t.set (key i 0) (some ())) wf hx (fun c' hcc => by obtain rfl := Option.some.inj hcc; rw [p2]; exact wf.short i _ c hx rfl) (fun hi t k hk => (hmk hi t k).2 (.inr hk)) (fun hi t k hk => (set_key0 t i k hi).2 (.inr hk)) (fun hi => ⟨fun k hk => by
        rcases (set_key0 _ i k hi).1 hk with rfl | hk
        · exact .inr (key_div _ _ (by omega))
        · exact .inl hk, fun k hk => by
        rcases (hmk hi _ k).1 hk with ⟨j, hj, rfl⟩ | hk
        · exact .inr (key_div _ _ (by omega))
        · exact .inl hk, .inl ((set_key0 _ i _ hi).2 (.inl rfl))⟩) (fun hi k hki hw => ?_) ?_ (fun t h2 hge hlt => ?_)
      · rw [view_set_eq (hi2 hi) hki, view_eq hx hki]
        by_cases h0 : k % 4096 = 0
        · simp [h0, strip, List.map_const', p2]
        · have := out k (hi2 hi) hki hw h0
          simp only [h0, if_false, cellsIn, Option.bind_some, p3, if_neg this]
      · unfold Go.Ideal.hwrite
        rw [hx, Opt.go_some]
        simp only [hp, Opt.go_some]
        rw [show (ro || !vs.all cellOk || bound.ble (Nat.add o vs.length)) = false from hcond, cond_false]
        cases Nat.ble s.wm i <;> rfl
      · have hy : ∃ c', t.h.get i = some (.cells c' e l ro st) ∧ c'.length = c.length ∧ (s.wm ≤ i → c' = c) := by
          by_cases hi : s.wm ≤ i
          · exact ⟨c, hge hi, rfl, fun _ => rfl⟩
          · have hi' : i < s.wm := by omega
            obtain ⟨y, hy, hs⟩ := get_of_view (hlt hi' (key i 0) (key_div _ _ (by omega)) (.inl ((set_key0 s.rd i _ (hi2 hi')).2 (.inl rfl)))) hx
            obtain ⟨c', rfl, e2⟩ := cells_strip y _ _ _ _ _ hs
            exact ⟨c', hy, by simpa using (congrArg List.length e2).symm, fun h => absurd h hi⟩
        obtain ⟨c', hy, hl, hcc⟩ := hy
        have hex : ∃ c2, putAt c' o vs = some c2 := by
          refine ⟨(List.range c'.length).map fun k => if o ≤ k ∧ k < o + vs.length then vs.getD (k - o) .nilFunc else c'.getD k .nilFunc, (putAt_iff _ _ _ _).2 ⟨by omega, by simp, fun k => ?_⟩⟩
          by_cases hk : k < c'.length
          · simp only [List.getElem?_map, List.getElem?_range hk, Option.map_some]
            split
            · rename_i hr
              have : k - o < vs.length := by omega
              simp [List.getD_eq_getElem?_getD, this]
            · simp [List.getD_eq_getElem?_getD, hk]
          · have h1 : ¬ (o ≤ k ∧ k < o + vs.length) := by omega
            rw [if_neg h1, List.getElem?_eq_none (by simp; omega), List.getElem?_eq_none (by omega)]
        obtain ⟨c2, hp2⟩ := hex
        obtain ⟨q1, q2, q3⟩ := (putAt_iff _ _ _ _).1 hp2
        refine ⟨.cells c2 e l ro st, ?_, fun hi => ?_, fun hi k hki hw => ?_, fun hi k hki hw => ?_⟩
        · unfold Go.Ideal.hwrite
          rw [hy, Opt.go_some]
          simp only [hp2, Opt.go_some]
          rw [show (ro || !vs.all cellOk || bound.ble (Nat.add o vs.length)) = false from hcond, cond_false]
          cases Nat.ble t.wm i <;> rfl
        · rw [hcc hi, hp] at hp2; rw [Option.some.inj hp2]
        · rw [view_set_eq (hi2 hi) hki, view_set_eq (hi2 hi) hki]
          by_cases h0 : k % 4096 = 0
          · simp [h0, strip, List.map_const', p2, q2, hl]
          · simp only [h0, if_false, cellsIn, Option.bind_some, p3, q3]
            by_cases hr : o ≤ k % 4096 - 1 ∧ k % 4096 - 1 < o + vs.length
            · rw [if_pos hr, if_pos hr]
            · -- it was marked before: then the views agree there
              rw [if_neg hr, if_neg hr]
              have hv := hlt hi k hki (.inr hw)
              rw [view_eq hy hki, view_eq hx hki, if_neg h0, if_neg h0] at hv
              simpa [cellsIn] using hv
        · rw [view_set_eq (hi2 hi) hki, view_eq hy hki]
          by_cases h0 : k % 4096 = 0
          · simp [h0, strip, List.map_const', q2]
          · have := out k (hi2 hi) hki hw h0
            simp only [h0, if_false, cellsIn, Option.bind_some, q3, if_neg this]
  | _ => simp at h

theorem get_of_views {h h' : Tr IObj} {i : Nat} (hv : ∀ k, k / 4096 = i → view h k = view h' k) (hs : ∀ x c, h'.get i = some x → cellsIn x = some c → c.length < 4095) : h.get i = h'.get i := by
  have h0 := view_inl_get (hv (key i 0) (key_div _ _ (by omega)))
  cases hx : h'.get i with
  | none => rw [hx] at h0; simpa using h0
  | some x =>
    obtain ⟨y, hy, hst⟩ := get_of_view (hv (key i 0) (key_div _ _ (by omega))) hx
    rw [hy]
    congr 1
    cases hc : cellsIn x with
    | none => exact strip_none hst.symm hc
    | some c =>
      have hlen := hs x c hx hc
      cases x with
      | cells c0 e l ro st =>
        obtain rfl := Option.some.inj hc
        obtain ⟨c', rfl, e2⟩ := cells_strip y _ _ _ _ _ hst
        have hl : c'.length = c0.length := by simpa using (congrArg List.length e2).symm
        congr 1
        apply List.ext_getElem?
        intro o
        by_cases ho : o < 4095
        · exact view_cell ho (hv (key i (o + 1)) (key_div _ _ (by omega))) hx hy rfl rfl
        · rw [List.getElem?_eq_none (by omega), List.getElem?_eq_none (by omega)]
      | _ => cases hc

theorem Loc0.fresh {m : EM Value} (hm : Loc0 m) : Loc0 (fresh m) := by
  intro s a s' wf h
  unfold Go.Ideal.fresh at h
  rw [Opt.go_eq] at h
  obtain ⟨⟨v, s1⟩, hms, h⟩ := h
  simp only [Option.some.injEq, Prod.mk.injEq] at h
  obtain ⟨rfl, rfl⟩ := h
  have wf0 : WF { h := s.h, nx := s.nx, wm := s.nx, rd := .e, wr := .e } := ⟨Nat.le_refl _, wf.lim, wf.free, wf.short, fun k hk => by rcases hk with h | h <;> exact absurd (Tr.get_e k) h⟩
  have A := hm _ _ _ wf0 hms
  have hnx : s.nx ≤ s1.nx := A.nx
  have hkeep : ∀ k, k / 4096 < s.nx → s1.wr.get k = none → view s1.h k = view s.h k := A.keep
  refine ⟨⟨Nat.le_trans wf.le hnx, A.wf.lim, A.wf.free, A.wf.short, fun k hk => by
    have h1 := wf.cl k
    have h2 := A.wf.cl k
    simp only [Tr.or_ne] at hk ⊢
    rcases hk with (h | h) | (h | h)
    · exact (h1 (.inl h)).imp .inl .inl
    · exact (h2 (.inl h)).imp .inr .inr
    · exact (h1 (.inr h)).imp .inl .inl
    · exact (h2 (.inr h)).imp .inr .inr⟩, rfl, hnx, fun k hk => Tr.or_ne.2 (.inl hk), fun k hk => Tr.or_ne.2 (.inl hk), fun k hk hw => ?_, fun t h1 h2 h3 h4 h5 h6 => ?_⟩
  · have hle := wf.le
    refine hkeep k (by omega) ?_
    cases hx : s1.wr.get k with
    | none => rfl
    | some u => exact absurd hw (Tr.or_ne.2 (.inr (by rw [hx]; simp)))
  · have hle := wf.le
    have h5a : ∀ k, k / 4096 < s.nx → (s1.rd.get k ≠ none ∨ s1.wr.get k ≠ none) → view t.h k = view s.h k := fun k hk hh => by
      by_cases hkw : k / 4096 < s.wm
      · exact h5 k hkw (hh.imp (fun h => Tr.or_ne.2 (.inr h)) (fun h => Tr.or_ne.2 (.inr h)))
      · exact view_of_get (h6 _ (by omega) hk)
    obtain ⟨t1, e1, a1, a2, a3, a4, a5, a6, a7, a8⟩ := A.again { h := t.h, nx := t.nx, wm := t.nx, rd := .e, wr := .e } h1 h1 rfl rfl h5a (fun i hi hi' => absurd hi (by show ¬ s.nx ≤ i; have : i < s.nx := hi'; omega))
    have a5' : ∀ k, k / 4096 < s.nx → s1.wr.get k ≠ none → view t1.h k = view s1.h k := a5
    have a6' : ∀ k, k / 4096 < s.nx → s1.wr.get k = none → view t1.h k = view t.h k := a6
    have a7' : ∀ i, s.nx ≤ i → i < s1.nx → t1.h.get i = s1.h.get i := a7
    refine ⟨{ h := t1.h, nx := t1.nx, wm := t.wm, rd := t.rd.or t1.rd, wr := t.wr.or t1.wr }, ?_, a1, h2, by show t.rd.or t1.rd = s.rd.or s1.rd; rw [h3, a3], by show t.wr.or t1.wr = s.wr.or s1.wr; rw [h4, a4], fun k hk hw => ?_, fun k hk hw => ?_, fun i hi hi' => ?_, fun i hi => a8 i hi⟩
    · unfold Go.Ideal.fresh
      rw [e1, Opt.go_some]
      show some ((v, (⟨t1.rd, t1.wr, t.nx, t1.nx⟩ : Foot)), _) = some ((v, (⟨s1.rd, s1.wr, s.nx, s1.nx⟩ : Foot)), _)
      rw [a3, a4, a1, h1]
    · show view t1.h k = view s1.h k
      cases hx : s1.wr.get k with
      | some u => exact a5' k (by omega) (by rw [hx]; simp)
      | none => rw [a6' k (by omega) hx, h5 k hk (.inr hw), hkeep k (by omega) hx]
    · refine a6' k (by omega) ?_
      cases hx : s1.wr.get k with
      | none => rfl
      | some u => exact absurd hw (Tr.or_ne.2 (.inr (by rw [hx]; simp)))
    · show t1.h.get i = s1.h.get i
      have hi'' : i < s1.nx := hi'
      by_cases hin : s.nx ≤ i
      · exact a7' i hin hi''
      · refine get_of_views (fun k hk => ?_) (A.wf.short i)
        cases hx : s1.wr.get k with
        | some u => exact a5' k (by omega) (by rw [hx]; simp)
        | none => rw [a6' k (by omega) hx, hkeep k (by omega) hx]; exact view_of_get (by rw [hk]; exact h6 i hi (by omega))

/-! ### The same, and that numbers rise -/
structure Loc {α : Type} (m : EM α) : Prop where
  at_ : Loc0 m
  up : ∀ s a s', m s = some (a, s') → s.nx ≤ s'.nx

theorem Loc.pure (a : α) : Loc (EM.pure a) := ⟨Loc0.pure a, fun s b s' h => by simp only [EM.pure, Option.some.injEq, Prod.mk.injEq] at h; rw [← h.2]; exact Nat.le_refl _⟩
theorem Loc.fail : Loc (EM.fail : EM α) := ⟨Loc0.fail, fun s a s' h => by simp [EM.fail] at h⟩
theorem Loc.lift (x : Option α) : Loc (EM.lift x) := ⟨Loc0.lift x, fun s a s' h => by
  simp only [EM.lift, Opt.go_eq, Option.some.injEq, Prod.mk.injEq] at h
  obtain ⟨_, _, _, rfl⟩ := h
  exact Nat.le_refl _⟩
theorem Loc.have {x : Option α} {f : α → EM β} (hf : ∀ a, x = some a → Loc (f a)) : Loc (EM.have x f) :=
  ⟨Loc0.have fun a h => (hf a h).at_, fun s b s' h => by
    simp only [EM.have, Opt.go_eq] at h
    obtain ⟨a, ha, h⟩ := h
    exact (hf a ha).up s b s' h⟩
theorem Loc.need {b : Bool} {m : EM α} (h : b = true → Loc m) : Loc (EM.need b m) := by
  cases b with
  | false => exact ⟨Loc0.need (fun h => by cases h), fun s a s' h => by simp [EM.need] at h⟩
  | true => exact h rfl
theorem Loc.ite {b : Bool} {m m' : EM α} (h : b = true → Loc m) (h' : b = false → Loc m') : Loc (bif b then m else m') := by
  cases b with
  | false => exact h' rfl
  | true => exact h rfl
theorem Loc.bind {m : EM α} {f : α → EM β} (hm : Loc m) (hf : ∀ a, Loc (f a)) : Loc (EM.bind m f) :=
  ⟨Loc0.bind hm.at_ fun a => (hf a).at_, fun s b s' h => by
    simp only [EM.bind, Opt.go_eq] at h
    obtain ⟨⟨a, s1⟩, h1, h⟩ := h
    exact Nat.le_trans (hm.up s a s1 h1) ((hf a).up s1 b s' h)⟩
theorem Loc.hget (i : Nat) : Loc (hget i) := ⟨Loc0.hget i, fun s a s' h => by
  unfold Go.Ideal.hget at h
  cases hb : Nat.ble s.wm i <;> simp only [hb, cond_true, cond_false, Opt.go_eq, Option.some.injEq, Prod.mk.injEq] at h <;> obtain ⟨_, _, _, rfl⟩ := h <;> exact Nat.le_refl _⟩
theorem hset_spec {i : Nat} {o : IObj} {s s' : HS} {a : Unit} (h : hset i o s = some (a, s')) :
    ∃ x, s.h.get i = some x ∧ cellsIn x = none ∧ cellsIn o = none ∧ s'.h = s.h.set i (some o) ∧ s'.nx = s.nx := by
  unfold Go.Ideal.hset at h
  simp only [Opt.go_eq] at h
  obtain ⟨x, hx, h⟩ := h
  cases hc : (cellsIn x).isSome || (cellsIn o).isSome with
  | true => simp [hc] at h
  | false =>
    have hc' : cellsIn x = none ∧ cellsIn o = none := by simpa using hc
    refine ⟨x, hx, hc'.1, hc'.2, ?_⟩
    cases hb : Nat.ble s.wm i <;> simp only [hc, hb, cond_true, cond_false, Option.some.injEq, Prod.mk.injEq] at h <;> obtain ⟨_, rfl⟩ := h <;> exact ⟨rfl, rfl⟩
theorem hkill_spec {i : Nat} {s s' : HS} {a : Unit} (h : hkill i s = some (a, s')) :
    ∃ x c, s.h.get i = some x ∧ cellsIn x = some c ∧ s'.h = s.h.set i (some .dead) ∧ s'.nx = s.nx := by
  unfold Go.Ideal.hkill at h
  simp only [Opt.go_eq] at h
  obtain ⟨x, hx, c, hc, h⟩ := h
  refine ⟨x, c, hx, hc, ?_⟩
  cases hbd : Nat.ble bound c.length with
  | true => simp [hbd] at h
  | false => cases hb : Nat.ble s.wm i <;> simp only [hbd, hb, cond_true, cond_false, Option.some.injEq, Prod.mk.injEq] at h <;> obtain ⟨_, rfl⟩ := h <;> exact ⟨rfl, rfl⟩
theorem hread_spec {i o n : Nat} {s s' : HS} {l : List Value} (h : hread i o n s = some (l, s')) :
    ∃ x c, s.h.get i = some x ∧ cellsIn x = some c ∧ takeAt c o n = some l ∧ s'.h = s.h ∧ s'.nx = s.nx := by
  unfold Go.Ideal.hread at h
  simp only [Opt.go_eq] at h
  obtain ⟨x, hx, c, hc, l', hl, h⟩ := h
  refine ⟨x, c, hx, hc, ?_⟩
  cases hbd : Nat.ble bound (Nat.add o n) with
  | true => rw [hbd] at h; simp at h
  | false => cases hb : Nat.ble s.wm i <;> rw [hbd, cond_false, hb] at h <;> simp only [cond_true, cond_false, Option.some.injEq, Prod.mk.injEq] at h <;> obtain ⟨rfl, rfl⟩ := h <;> exact ⟨hl, rfl, rfl⟩
theorem hwrite_spec {i o : Nat} {vs : List Value} {s s' : HS} {a : Unit} (h : hwrite i o vs s = some (a, s')) :
    ∃ c e l st c', s.h.get i = some (.cells c e l false st) ∧ putAt c o vs = some c' ∧ vs.all cellOk = true ∧ s'.h = s.h.set i (some (.cells c' e l false st)) ∧ s'.nx = s.nx := by
  unfold Go.Ideal.hwrite at h
  simp only [Opt.go_eq] at h
  obtain ⟨x, hx, h⟩ := h
  cases x with
  | cells c e l ro st =>
    simp only [Opt.go_eq] at h
    obtain ⟨c', hp, h⟩ := h
    cases hcond : ro || !vs.all cellOk || Nat.ble bound (Nat.add o vs.length) with
    | true => rw [hcond] at h; simp at h
    | false =>
      have hc : ro = false ∧ vs.all cellOk = true := by
        simp only [Bool.or_eq_false_iff, Bool.not_eq_false'] at hcond; exact hcond.1
      obtain ⟨rfl, hok⟩ := hc
      refine ⟨c, e, l, st, c', hx, hp, hok, ?_⟩
      cases hb : Nat.ble s.wm i <;> rw [hcond, cond_false, hb] at h <;> simp only [cond_true, cond_false, Option.some.injEq, Prod.mk.injEq] at h <;> obtain ⟨_, rfl⟩ := h <;> exact ⟨rfl, rfl⟩
  | _ => simp at h
theorem hnew_spec {o : IObj} {s s' : HS} {i : Nat} (h : hnew o s = some (i, s')) : i = s.nx ∧ s.nx < 200000 ∧ s'.h = s.h.set s.nx (some o) ∧ s'.nx = s.nx + 1 := by
  unfold Go.Ideal.hnew at h
  cases hb : Nat.ble 200000 s.nx with
  | true => rw [hb] at h; simp at h
  | false =>
    rw [hb, cond_false, force_eq] at h
    simp only [Option.some.injEq, Prod.mk.injEq] at h
    obtain ⟨rfl, rfl⟩ := h
    exact ⟨rfl, ble_false hb, rfl, rfl⟩
theorem hget_spec {i : Nat} {s s' : HS} {x : IObj} (h : hget i s = some (x, s')) : ∃ y, s.h.get i = some y ∧ x = strip y ∧ s'.h = s.h ∧ s'.nx = s.nx := by
  unfold Go.Ideal.hget at h
  cases hb : Nat.ble s.wm i <;> simp only [hb, cond_true, cond_false, Opt.go_eq, Option.some.injEq, Prod.mk.injEq] at h <;> obtain ⟨y, hy, rfl, rfl⟩ := h <;> exact ⟨y, hy, rfl, rfl, rfl⟩

theorem Loc.hread (i o n : Nat) : Loc (hread i o n) := ⟨Loc0.hread i o n, fun s a s' h => by obtain ⟨_, _, _, _, _, _, e⟩ := hread_spec h; rw [e]; exact Nat.le_refl _⟩
theorem Loc.hwrite (i o : Nat) (vs : List Value) : Loc (hwrite i o vs) := ⟨Loc0.hwrite i o vs, fun s a s' h => by obtain ⟨_, _, _, _, _, _, _, _, _, e⟩ := hwrite_spec h; rw [e]; exact Nat.le_refl _⟩
theorem Loc.hset (i : Nat) (o : IObj) : Loc (hset i o) := ⟨Loc0.hset i o, fun s a s' h => by obtain ⟨_, _, _, _, _, e⟩ := hset_spec h; rw [e]; exact Nat.le_refl _⟩
theorem Loc.hkill (i : Nat) : Loc (hkill i) := ⟨Loc0.hkill i, fun s a s' h => by obtain ⟨_, _, _, _, _, e⟩ := hkill_spec h; rw [e]; exact Nat.le_refl _⟩
theorem Loc.hnew (o : IObj) (ho : ∀ c, cellsIn o = some c → c.length < 4095) : Loc (hnew o) := ⟨Loc0.hnew o ho, fun s a s' h => by obtain ⟨_, _, _, e⟩ := hnew_spec h; omega⟩
theorem Loc.fresh {m : EM Value} (hm : Loc m) : Loc (fresh m) := ⟨Loc0.fresh hm.at_, fun s a s' h => by
  simp only [Go.Ideal.fresh, Opt.go_eq] at h
  obtain ⟨⟨v, s1⟩, h1, h⟩ := h
  simp only [Option.some.injEq, Prod.mk.injEq] at h
  obtain ⟨_, rfl⟩ := h
  have := hm.up { h := s.h, nx := s.nx, wm := s.nx, rd := .e, wr := .e } v s1 h1
  exact this⟩

end Go.Ideal

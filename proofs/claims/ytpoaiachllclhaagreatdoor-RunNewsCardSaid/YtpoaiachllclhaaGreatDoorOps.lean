/-
  What an operation does in the ideal heap, it does in the world. Conditions: none.
-/
import Derived.Test.YtpoaiachllclhaaGreatDoorSim
import Derived.Laws.Strings
namespace Go.Ideal
open Go

/-- what an operation comes to of these -/
def ROk (P : Program) : ROp → List Value → Value → Prop
  | .bin op => fun xs r => match xs with
    | [x, y] => (∀ l, x ≠ .agg l) ∧ x ≠ .nilIface ∧ ∀ t w, (Go.binOp op t x y).run P w = .ok r w
    | _ => False
  | .un op => fun xs r => match xs with
    | [x] => ∀ w, (Op.unary op x).run P w = .ok r w
    | _ => False
  | .conv s d => fun xs r => match xs with
    | [x] => ∀ w, (convert s d x).run P w = .ok r w
    | _ => False
  | .len t => fun xs r => match xs with
    | [x] => ∀ (ts : Array TypeId) tt w, ts[0]? = some t → (Builtin.len_ ts tt #[x]).run P w = .ok r w
    | _ => False
  | .max => fun xs r => ∀ ts tt w, (Builtin.max_ ts tt xs.toArray).run P w = .ok r w
  | .min => fun xs r => ∀ ts tt w, (Builtin.min_ ts tt xs.toArray).run P w = .ok r w
  | .cut t => fun xs r => match xs with
    | [x, h] => ∀ w, (Instr.sliceAt t x none (some h) none).run P w = .ok r w
    | _ => False

/-- the names stand for what they are to stand for; what came in lies where it is to lie -/
structure NameOk (Γ : Cx) (ρ : Rho) : Prop where
  val : ρ.σ = Γ.σ
  base : ∀ i rb, Γ.base i = some rb → ρ i = some rb

theorem NameOk.up {Γ : Cx} {ρ ρ' : Rho} (h : NameOk Γ ρ) (le : Rho.le ρ ρ') : NameOk Γ ρ' := ⟨le.val.trans h.val, fun i rb hi => le.get i rb (h.base i rb hi)⟩

structure CxOk (P : Program) (Γ : Cx) : Prop where
  ty : ∀ t ti, Γ.ty t = some ti → ∃ i z, P.info? t = some i ∧ P.underlying t = some ti.u ∧ i.zero = some z ∧ i.size = ti.size ∧ i.bytes = ti.bytes ∧ cellsOf z = ti.zero ∧
    zeroOk ti.agg ti.size z = true ∧ ti.agg = isAggT ti.u
  fn : ∀ f fn, Γ.fn f = some fn → P.funcs[f]? = some fn
  eqs : ∀ t ks, Γ.eqs t = some ks → ∀ (xs ys : List Value) r, sameFlat ks xs ys = some r → ∀ (o : BinOp) (x y : Operand) w,
    (eqGuard o t x y (.agg xs.toArray) (.agg ys.toArray)).run P w = .ok () w ∧ (Op.equal t (.agg xs.toArray) (.agg ys.toArray)).run P w = .ok r w
  chan : ∀ t e, Γ.chan t = some e → ∃ d, P.underlying t = some (.chan d e)
  rule : ∀ o xs r, Γ.rule o xs = some r → ∀ ρ : Rho, NameOk Γ ρ → ∀ xs', VRs ρ xs xs' → ∃ r', ROk P o xs' r' ∧ VR ρ r r'

theorem tiOf_ok {P : Program} {t : Nat} {ti : TI} (h : tiOf P t = some ti) : ∃ i z, P.info? t = some i ∧ P.underlying t = some ti.u ∧ i.zero = some z ∧ i.size = ti.size ∧ i.bytes = ti.bytes ∧ cellsOf z = ti.zero ∧
    zeroOk ti.agg ti.size z = true ∧ ti.agg = isAggT ti.u := by
  unfold tiOf at h
  simp only [Opt.go_eq] at h
  obtain ⟨i, hi, u, hu, z, hz, h⟩ := h
  cases hc : zeroOk (isAggT u) i.size z with
  | false => rw [hc] at h; simp at h
  | true =>
    rw [hc] at h
    simp only [Bool.not_true, cond_false, Option.some.injEq] at h
    subst h
    exact ⟨i, z, hi, hu, hz, rfl, rfl, rfl, hc, rfl⟩

theorem chanOf_ok {P : Program} {t e : Nat} (h : (match P.underlying t with | some (.chan _ e) => some e | _ => none) = some e) : ∃ d, P.underlying t = some (.chan d e) := by
  split at h
  · rename_i d e' hu
    obtain rfl := Option.some.inj h
    exact ⟨d, hu⟩
  · cases h

theorem cxOf_ok (P : Program) (xs : List (Nat × Ext)) (fx : Nat → Option Obj) : CxOk P (cxOf P xs [] fx) := ⟨fun _ _ h => tiOf_ok h, fun _ _ h => h, (fun _ _ h => by cases h), fun _ _ h => chanOf_ok h, fun _ _ _ h => by cases h⟩

theorem sameBytes_eq : ∀ (x y : List UInt8), sameBytes x y = (x == y) := by
  intro x
  induction x with
  | nil => intro y; cases y <;> simp [sameBytes]
  | cons a x ih =>
    intro y
    cases y with
    | nil => simp [sameBytes]
    | cons b y =>
      have e : Nat.beq a.toNat b.toNat = (a == b) := by
        rw [Bool.eq_iff_iff]
        constructor
        · intro h; exact beq_iff_eq.2 (UInt8.toNat_inj.1 (Nat.eq_of_beq_eq_true h))
        · intro h; rw [beq_iff_eq.1 h]; exact Nat.beq_refl _
      simp only [sameBytes, e, ih, List.cons_beq_cons]
      cases (a == b) <;> simp

section flats
variable {P : Program} {w : World}

def leafDesc : Leaf → TypeDesc
  | .b => .bool
  | .i => .int .i64
  | .s => .string

/-- a type of a plain sort -/
structure LeafAt (P : Program) (e : Nat) (k : Leaf) : Prop where
  u : P.underlying e = some (leafDesc k)
  size : P.cellsOf e = 1
  known : (P.info? e).isSome = true

theorem leaf_isAgg {e : Nat} {k : Leaf} (L : LeafAt P e k) : (isAgg e).run P w = .ok false w := by
  have hu : (underlying e).run P w = .ok (leafDesc k) w := by simp [underlying, L.u]
  unfold isAgg
  simp only [Sem.run_bind, hu, Result.andThen_ok]
  cases k <;> rfl

theorem leaf_part {e : Nat} {k : Leaf} (L : LeafAt P e k) {l : List Value} {i : Nat} {v : Value} (h : l[i]? = some v) : (part e l.toArray i).run P w = .ok v w := by
  unfold part
  simp only [Sem.run_bind, leaf_isAgg L, Result.andThen_ok, Bool.false_eq_true, if_false, List.getElem?_toArray, h, Sem.run_pure]

theorem leaf_equal {e : Nat} {k : Leaf} (L : LeafAt P e k) {x y : Value} {r : Bool} (h : sameLeaf k x y = some r) (d : Nat) : (Op.equalIn (d + 1) e x y).run P w = .ok r w := by
  have hu : (underlying e).run P w = .ok (leafDesc k) w := by simp [underlying, L.u]
  unfold Op.equalIn
  simp only [Sem.run_bind, hu, Result.andThen_ok]
  cases k with
  | b =>
    simp only [sameLeaf] at h
    split at h
    · split at h
      · obtain rfl := Option.some.inj h; rfl
      · cases h
    · cases h
  | i =>
    simp only [sameLeaf] at h
    split at h
    · split at h
      · obtain rfl := Option.some.inj h
        simp only [leafDesc, if_true, Sem.run_pure]
        rfl
      · cases h
    · cases h
  | s =>
    simp only [sameLeaf] at h
    split at h
    · split at h
      · obtain rfl := Option.some.inj h
        rename_i a _ b
        have e : (a.data.toList == b.data.toList) = (a == b) := by
          cases a
          cases b
          rename_i x y
          have : (x.toList == y.toList) = (x == y) := by simp
          exact this
        rw [sameBytes_eq, e]
        rfl
      · cases h
    · cases h

theorem flat_loop {α : Type} {body : α → Option Bool × PUnit → Sem (ForInStep (Option Bool × PUnit))} : ∀ (l : List α) (ks : List Leaf) (xs ys : List Value) (r : Bool), l.length = ks.length → sameFlat ks xs ys = some r →
    (∀ (j : Nat) a k x y b, l[j]? = some a → ks[j]? = some k → xs[j]? = some x → ys[j]? = some y → sameLeaf k x y = some b → (body a (none, ())).run P w = .ok (if b then ForInStep.yield (none, ()) else ForInStep.done (some false, ())) w) →
    (forIn l ((none, ()) : Option Bool × PUnit) body).run P w = .ok (if r then none else some false, ()) w := by
  intro l
  induction l with
  | nil =>
    intro ks xs ys r hl h _
    have : ks = [] := List.eq_nil_of_length_eq_zero hl.symm
    subst this
    unfold sameFlat at h
    split at h
    · split at h
      · obtain rfl := Option.some.inj h
        simp [Sem.run_pure]
      · cases h
    · cases h
  | cons a l ih =>
    intro ks xs ys r hl h hb
    cases ks with
    | nil => cases hl
    | cons k ks =>
      unfold sameFlat at h
      split at h
      · cases h
      · rename_i x xs
        split at h
        · cases h
        · rename_i y ys
          simp only [Opt.go_eq, Option.some.injEq] at h
          obtain ⟨b, h1, q, h2, rfl⟩ := h
          rw [List.forIn_cons, Sem.run_bind, hb 0 a k x y b rfl rfl rfl rfl h1]
          cases b with
          | true =>
            rw [if_pos rfl, Result.andThen_ok, Bool.true_and]
            exact ih ks xs ys q (by simpa using hl) h2 fun j a' k' x' y' b' e1 e2 e3 e4 => hb (j + 1) a' k' x' y' b' e1 e2 e3 e4
          | false => simp [Sem.run_pure]

/-- rows and structs of plain sorts -/
inductive EqAt (P : Program) (t : Nat) (ks : List Leaf) : Prop
  | arr (n e : Nat) : P.eqGuardType P.depth t = false → P.underlying t = some (.array n e) → ks ≠ [] → ks.length = n → (∀ k ∈ ks, LeafAt P e k) → EqAt P t ks
  | str (fs : Array Field) : P.eqGuardType P.depth t = false → P.underlying t = some (.struct fs) → P.stoodInHeld t = false → fs.toList.length = ks.length →
      (∀ (j : Nat) (f : Field) (k : Leaf), fs.toList[j]? = some f → ks[j]? = some k → f.name ≠ "_" ∧ f.offset = j ∧ LeafAt P f.type k) → EqAt P t ks

theorem sameFlat_length : ∀ {ks : List Leaf} {xs ys : List Value} {r : Bool}, sameFlat ks xs ys = some r → xs.length = ks.length ∧ ys.length = ks.length := by
  intro ks
  induction ks with
  | nil =>
    intro xs ys r h
    unfold sameFlat at h
    split at h
    · split at h
      · exact ⟨rfl, rfl⟩
      · cases h
    · cases h
  | cons k ks ih =>
    intro xs ys r h
    unfold sameFlat at h
    split at h
    · cases h
    · split at h
      · cases h
      · simp only [Opt.go_eq, Option.some.injEq] at h
        obtain ⟨b, h1, q, h2, rfl⟩ := h
        obtain ⟨g1, g2⟩ := ih h2
        simp [g1, g2]

theorem eqAt_run {t : Nat} {ks : List Leaf} (E : EqAt P t ks) {xs ys : List Value} {r : Bool} (h : sameFlat ks xs ys = some r) (d : Nat) : (Op.equalIn (d + 2) t (.agg xs.toArray) (.agg ys.toArray)).run P w = .ok r w := by
  cases E with
  | arr n e hg hu hne hn hk =>
    have hu' : (underlying t).run P w = .ok (.array n e) w := by simp [underlying, hu]
    unfold Op.equalIn
    simp only [Sem.run_bind, hu', Result.andThen_ok]
    cases ks with
    | nil => exact absurd rfl hne
    | cons k0 ks0 =>
      have L0 := hk k0 (List.mem_cons_self ..)
      obtain ⟨i, hi⟩ := Option.isSome_iff_exists.1 L0.known
      have hsz : i.size = 1 := by
        have h := L0.size
        unfold Program.cellsOf at h
        rw [hi] at h
        exact h
      have hs : (sizeOf e).run P w = .ok 1 w := by simp [sizeOf, typeInfo, hi, hsz]
      simp only [hs, Result.andThen_ok, Std.Legacy.Range.forIn_eq_forIn_range', Std.Legacy.Range.size, Nat.sub_zero, Nat.add_sub_cancel, Nat.div_one, Nat.mul_one]
      rw [flat_loop (List.range' 0 n) (k0 :: ks0) xs ys r (by simp [hn]) h (fun j a k x y b e1 e2 e3 e4 e5 => by
        have : a = j := by
          rw [List.getElem?_range'] at e1
          · simpa using (Option.some.inj e1).symm
          · have := (List.getElem?_eq_some_iff.1 e1).1
            simpa using this
        subst this
        have L := hk k (List.mem_of_getElem? e2)
        simp only [Sem.run_bind, leaf_part L e3, leaf_part L e4, leaf_equal L e5, Result.andThen_ok]
        cases b <;> simp [Sem.run_pure])]
      rw [Result.andThen_ok]
      cases r <;> simp [Sem.run_pure]
  | str fs hg hu hst hn hk =>
    have hu' : (underlying t).run P w = .ok (.struct fs) w := by simp [underlying, hu]
    unfold Op.equalIn
    simp only [Sem.run_bind, hu', Result.andThen_ok, run_program, hst, Bool.false_eq_true, if_false]
    rw [← Array.forIn_toList]
    rw [flat_loop fs.toList ks xs ys r hn h (fun j f k x y b e1 e2 e3 e4 e5 => by
      obtain ⟨g1, g2, L⟩ := hk j f k e1 e2
      subst g2
      simp only [ne_eq, g1, not_false_eq_true, if_true, Sem.run_bind, leaf_part L e3, leaf_part L e4, leaf_equal L e5, Result.andThen_ok]
      cases b <;> simp [Sem.run_pure])]
    rw [Result.andThen_ok]
    cases r <;> simp [Sem.run_pure]

end flats

def leafB (P : Program) (e : Nat) (k : Leaf) : Bool :=
  (match P.underlying e with
    | some u => match k with
      | .b => match u with | .bool => true | _ => false
      | .i => match u with | .int .i64 => true | _ => false
      | .s => match u with | .string => true | _ => false
    | none => false) && Nat.beq (P.cellsOf e) 1 && (P.info? e).isSome

def fieldsB (P : Program) : List Field → List Leaf → Nat → Bool
  | [], ks, _ => ks.isEmpty
  | f :: fs, ks, i => match ks with
    | [] => false
    | k :: ks => (f.name != "_") && Nat.beq f.offset i && leafB P f.type k && fieldsB P fs ks (i + 1)

/-- may this type be compared cell by cell? -/
def eqB (P : Program) (t : Nat) (ks : List Leaf) : Bool :=
  !P.eqGuardType P.depth t && match P.underlying t with
  | some (.array n e) => Nat.beq ks.length n && !ks.isEmpty && ks.all (leafB P e)
  | some (.struct fs) => !P.stoodInHeld t && fieldsB P fs.toList ks 0
  | _ => false

theorem leafB_eq {P : Program} {e : Nat} {k : Leaf} (h : leafB P e k = true) : LeafAt P e k := by
  unfold leafB at h
  simp only [Bool.and_eq_true] at h
  obtain ⟨⟨h1, h2⟩, h3⟩ := h
  refine ⟨?_, Nat.eq_of_beq_eq_true h2, h3⟩
  split at h1
  · rename_i u hu
    rw [hu]
    cases k <;> simp only [] at h1 <;> split at h1 <;> first | rfl | cases h1
  · cases h1

theorem fieldsB_eq {P : Program} : ∀ (fs : List Field) (ks : List Leaf) (i : Nat), fieldsB P fs ks i = true → fs.length = ks.length ∧ ∀ (j : Nat) (f : Field) (k : Leaf), fs[j]? = some f → ks[j]? = some k → f.name ≠ "_" ∧ f.offset = i + j ∧ LeafAt P f.type k := by
  intro fs
  induction fs with
  | nil =>
    intro ks i h
    cases ks with
    | nil => exact ⟨rfl, fun j f k e => by cases e⟩
    | cons k ks => cases h
  | cons f fs ih =>
    intro ks i h
    cases ks with
    | nil => cases h
    | cons k ks =>
      simp only [fieldsB, Bool.and_eq_true, bne_iff_ne] at h
      obtain ⟨⟨⟨h1, h2⟩, h3⟩, h4⟩ := h
      obtain ⟨g1, g2⟩ := ih ks (i + 1) h4
      refine ⟨by simp [g1], fun j f' k' e1 e2 => ?_⟩
      cases j with
      | zero =>
        cases e1
        cases e2
        exact ⟨h1, Nat.eq_of_beq_eq_true h2, leafB_eq h3⟩
      | succ j =>
        obtain ⟨a, b, c⟩ := g2 j f' k' e1 e2
        exact ⟨a, by omega, c⟩

theorem eqB_eq {P : Program} {t : Nat} {ks : List Leaf} (h : eqB P t ks = true) : EqAt P t ks := by
  unfold eqB at h
  rw [Bool.and_eq_true] at h
  obtain ⟨hg, h⟩ := h
  have hg : P.eqGuardType P.depth t = false := by simpa using hg
  split at h
  · rename_i n e hu
    simp only [Bool.and_eq_true] at h
    obtain ⟨⟨h1, h2⟩, h3⟩ := h
    refine .arr n e hg hu ?_ (Nat.eq_of_beq_eq_true h1) fun k hk => leafB_eq (List.all_eq_true.1 h3 k hk)
    rintro rfl
    cases h2
  · rename_i fs hu
    simp only [Bool.and_eq_true] at h
    obtain ⟨h1, h2⟩ := h
    obtain ⟨g1, g2⟩ := fieldsB_eq _ _ _ h2
    refine .str fs hg hu (by simpa using h1) g1 fun j f k e1 e2 => ?_
    obtain ⟨a, b, c⟩ := g2 j f k e1 e2
    exact ⟨a, by omega, c⟩
  · cases h

theorem EqAt.guard {P : Program} {t : Nat} {ks : List Leaf} (E : EqAt P t ks) : P.eqGuardType P.depth t = false := by
  cases E <;> assumption

theorem findEq_mem {t : Nat} {ks : List Leaf} : ∀ {qs : List (Nat × List Leaf)}, findEq t qs = some ks → (t, ks) ∈ qs := by
  intro qs
  induction qs with
  | nil => intro h; cases h
  | cons q l ih =>
    intro h
    simp only [findEq] at h
    cases hb : Nat.beq q.1 t with
    | true =>
      rw [hb] at h
      have := Option.some.inj h
      rw [← Nat.eq_of_beq_eq_true hb, ← this]
      exact List.mem_cons_self ..
    | false => rw [hb] at h; exact List.mem_cons_of_mem _ (ih h)

theorem cxOf_eqs (P : Program) (xs : List (Nat × Ext)) (qs : List (Nat × List Leaf)) (fx : Nat → Option Obj) (hq : qs.all (fun q => eqB P q.1 q.2) = true) : CxOk P (cxOf P xs qs fx) :=
  ⟨fun _ _ h => tiOf_ok h, fun _ _ h => h, fun t ks ht xs ys r hr o x y w => by
    have E := eqB_eq (List.all_eq_true.1 hq _ (findEq_mem ht))
    refine ⟨?_, ?_⟩
    · have hg := E.guard
      cases o <;> simp [eqGuard, Sem.run_bind, run_program, Sem.run_pure, hg]
    · have hm : Op.maxDepth = 9998 + 2 := rfl
      unfold Op.equal
      rw [hm]
      exact eqAt_run E hr 9998, fun _ _ h => chanOf_ok h, fun _ _ _ h => by cases h⟩

theorem cxSym_ok (P : Program) (xs : List (Nat × Ext)) (qs : List (Nat × List Leaf)) (fx : Nat → Option Obj) (σ : Nat → Value) (rule : ROp → List Value → Option Value) (base : Nat → Option RB) (hq : qs.all (fun q => eqB P q.1 q.2) = true)
    (hr : ∀ o xs r, rule o xs = some r → ∀ ρ : Rho, ρ.σ = σ → (∀ i rb, base i = some rb → ρ i = some rb) → ∀ xs', VRs ρ xs xs' → ∃ r', ROk P o xs' r' ∧ VR ρ r r') : CxOk P (cxSym P xs qs fx σ rule base) :=
  have C := cxOf_eqs P xs qs fx hq
  ⟨C.ty, C.fn, C.eqs, C.chan, fun o xs r h ρ n => hr o xs r h ρ n.val n.base⟩

section ops
variable {P : Program} {Γ : Cx} {ρ : Rho} {s s' : HS} {w : World}

theorem ty_run (C : CxOk P Γ) {t : TypeId} {ti : TI} (h : Γ.ty t = some ti) : (∀ w, (underlying t).run P w = .ok ti.u w) ∧ (∀ w, (sizeOf t).run P w = .ok ti.size w) ∧
    (∀ w, (isAgg t).run P w = .ok ti.agg w) ∧ (∃ i, P.info? t = some i ∧ i.bytes = ti.bytes ∧ i.size = ti.size) ∧ (∃ z, (∀ w, (zeroValue t).run P w = .ok z w) ∧ cellsOf z = ti.zero ∧ zeroOk ti.agg ti.size z = true) := by
  obtain ⟨i, z, h1, h2, h3, h4, h5, h6, h7, h8⟩ := C.ty t ti h
  have ht : ∀ w, (typeInfo t).run P w = .ok i w := fun w => by simp [typeInfo, h1]
  have hu : ∀ w, (underlying t).run P w = .ok ti.u w := fun w => by simp [underlying, h2]
  refine ⟨hu, fun w => by simp [sizeOf, ht, h4], fun w => ?_, ⟨i, h1, h5, h4⟩, z, fun w => by simp [zeroValue, ht, h3], h6, h7⟩
  simp only [isAgg, Sem.run_bind, hu, Result.andThen_ok]
  rw [h8]; unfold isAggT
  generalize ti.u = u
  cases u <;> simp

theorem zero_VRs {ti : TI} {z : Value} (h : zeroOk ti.agg ti.size z = true) (hz : cellsOf z = ti.zero) : VRs ρ ti.zero ti.zero ∧ ti.zero.length = ti.size ∧ VR ρ z z ∧ z.cells = ti.zero.toArray := by
  unfold zeroOk at h
  simp only [Bool.and_eq_true] at h
  obtain ⟨⟨h1, h2⟩, h3⟩ := h
  rw [hz] at h1 h2
  have hv : VRs ρ ti.zero ti.zero := VRs.refl_of fun v hv => flat_VR ρ (List.all_eq_true.1 h2 v hv)
  refine ⟨hv, Nat.eq_of_beq_eq_true h1, ?_, ?_⟩
  · cases z with
    | agg cs => have : VRs ρ cs.toList cs.toList := by rw [show cs.toList = ti.zero from hz]; exact hv
                exact VR.agg' this
    | _ => rw [← hz] at hv; exact hv.head
  · cases z <;> (simp only [cellsOf] at hz; rw [← hz]; simp [Value.cells])

theorem lookV {x : Operand} {T : Env} {v : Value} {a : Act} (h : look x T = some v) (tr : TR ρ T a.tmps) : VR ρ v (a.eval x) := by
  cases x with
  | tmp t =>
    obtain ⟨v', h1, h2⟩ := tr t v h
    have : a.eval (.tmp t) = v' := by
      show a.tmps.getD t undef = v'
      simp [Array.getD_eq_getD_getElem?, h1]
    rw [this]; exact h2
  | const c =>
    simp only [look] at h
    cases hc : plainConst c with
    | false => rw [hc] at h; cases h
    | true => rw [hc] at h; obtain rfl := Option.some.inj h; exact plainConst_VR ρ hc
  | global g => cases h
  | func f =>
    obtain rfl := Option.some.inj h
    exact VR.fn f [] [] [] [] rfl (fun j v v' h => by simp at h) rfl (fun j v v' h => by simp at h)

theorem argsV {T : Env} {a : Act} (tr : TR ρ T a.tmps) : ∀ {l : List Operand} {vs : List Value}, args l T = some vs → VRs ρ vs (l.map a.eval) := by
  intro l
  induction l with
  | nil => intro vs h; obtain rfl := Option.some.inj h; exact VRs.nil ρ
  | cons x l ih =>
    intro vs h
    simp only [args, Opt.go_eq] at h
    obtain ⟨v, hv, r, hr, h⟩ := h
    obtain rfl := Option.some.inj h
    exact VRs.cons (lookV hv tr) (ih hr)

/-- What is asked of a piece of the evaluator that stands for a piece of the model. -/
def DoesV (P : Program) (Γ : Cx) (ρ : Rho) (s : HS) (w : World) (r : Sem Value) (v : Value) (s' : HS) : Prop :=
  ∃ v' w' ρ', r.run P w = .ok v' w' ∧ VR ρ' v v' ∧ Stp Γ ρ s w ρ' s' w'

def DoesU (P : Program) (Γ : Cx) (ρ : Rho) (s : HS) (w : World) (r : Sem Unit) (s' : HS) : Prop :=
  ∃ w' ρ', r.run P w = .ok () w' ∧ Stp Γ ρ s w ρ' s' w'

/-- what is to stay is there, and nothing of the ideal heap that may be written lies there -/
structure Fix (Γ : Cx) (ρ : Rho) (h : Tr IObj) (w : World) : Prop where
  val : NameOk Γ ρ
  keep : ∀ b o, Γ.fix b = some o → w.heap[b]? = some o ∧ ¬ Img ρ h b

theorem Fix.step {ρ1 : Rho} {s1 : HS} {w1 : World} (fx : Fix Γ ρ s.h w) (st : Stp Γ ρ s w ρ1 s1 w1) : Fix Γ ρ1 s1.h w1 := ⟨fx.val.up st.ext, fun b o hb => by
  obtain ⟨h1, h2⟩ := fx.keep b o hb
  have hlt : b < w.heap.size := (Array.getElem?_eq_some_iff.1 h1).1
  refine ⟨by rw [st.frame b hlt h2]; exact h1, fun hi => ?_⟩
  rcases st.own b hi with h | h
  · omega
  · exact h2 h⟩

structure Pre (Γ : Cx) (ρ : Rho) (s : HS) (w : World) (s' : HS) : Prop where
  inv : Inv Γ ρ s.h w
  free : ∀ i, s.nx ≤ i → i < s'.nx → ρ i = none
  fix : Fix Γ ρ s.h w

theorem DoesV.pure {v v' : Value} (pre : Pre Γ ρ s w s') (hh : s'.h = s.h) (hv : VR ρ v v') : DoesV P Γ ρ s w (Pure.pure v') v s' :=
  ⟨v', w, ρ, rfl, hv, Stp.same pre.inv hh⟩

theorem DoesV.of_run {v v' : Value} {r : Sem Value} (pre : Pre Γ ρ s w s') (hh : s'.h = s.h) (hr : r.run P w = .ok v' w) (hv : VR ρ v v') : DoesV P Γ ρ s w r v s' :=
  ⟨v', w, ρ, hr, hv, Stp.same pre.inv hh⟩

theorem DoesV.congr {v : Value} {r r' : Sem Value} (h : DoesV P Γ ρ s w r v s') (e : r'.run P w = r.run P w) : DoesV P Γ ρ s w r' v s' := by
  obtain ⟨v', w', ρ', h1, h2, h3⟩ := h; exact ⟨v', w', ρ', e.trans h1, h2, h3⟩

theorem bind_eq {α β : Type} {m : EM α} {f : α → EM β} {r : β × HS} : EM.bind m f s = some r ↔ ∃ a s1, m s = some (a, s1) ∧ f a s1 = some r := by
  unfold EM.bind
  rw [Opt.go_eq]
  exact ⟨fun ⟨p, h, k⟩ => ⟨p.1, p.2, h, k⟩, fun ⟨a, s1, h, k⟩ => ⟨(a, s1), h, k⟩⟩
theorem have_eq {α β : Type} {x : Option α} {f : α → EM β} {r : β × HS} : EM.have x f s = some r ↔ ∃ a, x = some a ∧ f a s = some r := by
  unfold EM.have; rw [Opt.go_eq]
theorem need_eq {α : Type} {b : Bool} {m : EM α} {r : α × HS} : EM.need b m s = some r ↔ b = true ∧ m s = some r := by
  unfold EM.need; cases b <;> simp
theorem pure_eq {α : Type} {a : α} {r : α × HS} : EM.pure a s = some r ↔ r = (a, s) := by
  unfold EM.pure; rw [Option.some.injEq]; exact eq_comm
theorem lift_eq {α : Type} {x : Option α} {r : α × HS} : EM.lift x s = some r ↔ ∃ a, x = some a ∧ r = (a, s) := by
  unfold EM.lift; simp only [Opt.go_eq, Option.some.injEq]
  exact ⟨fun ⟨a, h, k⟩ => ⟨a, h, k.symm⟩, fun ⟨a, h, k⟩ => ⟨a, h, k.symm⟩⟩
theorem fail_eq {α : Type} {r : α × HS} : (EM.fail : EM α) s = some r ↔ False := by simp [EM.fail]

/-! ### Integers, strings, comparisons -/
theorem topOf_wrap (k : IntKind) (m : Nat) (h : m ≤ topOf k) : k.wrap (m : Int) = m := by
  cases k <;> simp only [topOf] at h <;> simp [IntKind.wrap, IntKind.bits, IntKind.signed] <;> omega

theorem intV_eq (k : IntKind) (n : Int) : intV k n = .int k (k.wrap n) := by
  cases n with
  | ofNat m =>
    simp only [intV]
    cases hb : Nat.ble m (topOf k) with
    | true => rw [cond_true, force_eq]; rw [show k.wrap (Int.ofNat m) = m from topOf_wrap k m (Nat.le_of_ble_eq_true hb)]; rfl
    | false => rfl
  | negSucc m => rfl

theorem boolV_eq (b : Bool) : boolV b = .bool b := forceB_eq b _

theorem bitsModel_run {op : BinOp} {k : IntKind} {x y : Int} {v : Value} (h : bitsModel op k x y = some v) : (Op.intBits op k x y).run P w = .ok v w := by
  cases op <;> simp only [bitsModel] at h <;> first | (cases h; done) | (obtain rfl := Option.some.inj h; rfl)

theorem toNat_ofInt (k : IntKind) (m : Nat) (h : m ≤ topOf k) : (BitVec.ofInt k.bits (m : Int)).toNat = m := by
  rw [BitVec.toNat_ofInt]
  cases k <;> simp only [topOf, IntKind.bits] at * <;> omega

theorem land_le (k : IntKind) {m n : Nat} (h : m ≤ topOf k) : m &&& n ≤ topOf k := Nat.le_trans Nat.and_le_left h

theorem top_pow (k : IntKind) : topOf k + 1 = 2 ^ k.bits ∨ topOf k + 1 = 2 ^ (k.bits - 1) := by
  cases k <;> simp [topOf, IntKind.bits]

theorem lor_le (k : IntKind) {m n : Nat} (h : m ≤ topOf k) (h' : n ≤ topOf k) : m ||| n ≤ topOf k := by
  have e := top_pow k
  rcases e with e | e
  · have := @Nat.or_lt_two_pow m n k.bits (by omega) (by omega); omega
  · have := @Nat.or_lt_two_pow m n (k.bits - 1) (by omega) (by omega); omega

theorem xor_le (k : IntKind) {m n : Nat} (h : m ≤ topOf k) (h' : n ≤ topOf k) : m ^^^ n ≤ topOf k := by
  have e := top_pow k
  rcases e with e | e
  · have := @Nat.xor_lt_two_pow m n k.bits (by omega) (by omega); omega
  · have := @Nat.xor_lt_two_pow m n (k.bits - 1) (by omega) (by omega); omega

theorem bitsV_run {op : BinOp} {k : IntKind} {x y : Int} {v : Value} (h : bitsV op k x y = some v) : (Op.intBits op k x y).run P w = .ok v w := by
  unfold bitsV at h
  split at h
  · rename_i m n
    cases hb : Nat.ble m (topOf k) && Nat.ble n (topOf k) with
    | false => rw [hb, cond_false] at h; exact bitsModel_run h
    | true =>
      rw [hb, cond_true] at h
      rw [Bool.and_eq_true] at hb
      have hm := Nat.le_of_ble_eq_true hb.1
      have hn := Nat.le_of_ble_eq_true hb.2
      split at h
      · obtain rfl := Option.some.inj h
        rw [force_eq]
        show Result.ok (Value.int k (k.wrap ((BitVec.ofInt k.bits (m : Int) &&& BitVec.ofInt k.bits (n : Int)).toNat : Nat))) w = _
        rw [BitVec.toNat_and, toNat_ofInt k m hm, toNat_ofInt k n hn, topOf_wrap k _ (land_le k hm)]; rfl
      · obtain rfl := Option.some.inj h
        rw [force_eq]
        show Result.ok (Value.int k (k.wrap ((BitVec.ofInt k.bits (m : Int) ||| BitVec.ofInt k.bits (n : Int)).toNat : Nat))) w = _
        rw [BitVec.toNat_or, toNat_ofInt k m hm, toNat_ofInt k n hn, topOf_wrap k _ (lor_le k hm hn)]; rfl
      · obtain rfl := Option.some.inj h
        rw [force_eq]
        show Result.ok (Value.int k (k.wrap ((BitVec.ofInt k.bits (m : Int) ^^^ BitVec.ofInt k.bits (n : Int)).toNat : Nat))) w = _
        rw [BitVec.toNat_xor, toNat_ofInt k m hm, toNat_ofInt k n hn, topOf_wrap k _ (xor_le k hm hn)]; rfl
      · exact bitsModel_run h
  · exact bitsModel_run h

/-- the model's operation on two integers of one kind -/
def modelInt (op : BinOp) (k : IntKind) (x y : Int) : Sem Value :=
  match op with
  | .shl | .shr => Op.shift op k x k y
  | .add | .sub | .mul => Op.intArith op k x y
  | .quo | .rem => Op.intDiv op k x y
  | .and | .or | .xor | .andNot => Op.intBits op k x y
  | _ => Op.intCmp op x y

theorem intOp_run {op : BinOp} {k : IntKind} {x y : Int} {v : Value} (h : intOp op k x y = some v) : (modelInt op k x y).run P w = .ok v w := by
  cases op <;> simp only [intOp] at h <;> first
    | (cases h; done)
    | exact bitsV_run h
    | (obtain rfl := Option.some.inj h; rw [intV_eq]; rfl)
    | (obtain rfl := Option.some.inj h; rw [boolV_eq]; rfl)
    | (obtain rfl := Option.some.inj h; rw [boolV_eq]; simp [modelInt, Op.intCmp]; done)
    | (split at h
       · cases h
       · rename_i hb
         obtain rfl := Option.some.inj h
         try rw [intV_eq]
         simp [modelInt, Op.intDiv, hb])

theorem strOp_run {op : BinOp} {x y : ByteArray} {v : Value} (h : strOp op x y = some v) : (Op.stringOp op x y).run P w = .ok v w := by
  have e : ∀ z : ByteArray, z.toList = z.data.toList := fun z => ByteArray.toList_eq z
  cases op <;> simp only [strOp] at h <;> try (cases h; done)
  · cases hb : Nat.ble 1000000000 (x.size + y.size) with
    | true => rw [hb] at h; cases h
    | false =>
      rw [hb, cond_false] at h
      obtain rfl := Option.some.inj h
      have hlt := ble_false hb
      simp only [Op.stringOp]
      rw [if_neg (by simp [IntKind.max, IntKind.signed, IntKind.bits]; omega)]
      congr 2
  · obtain rfl := Option.some.inj h
    rw [boolV_eq, sameBytes_eq]; simp [Op.stringOp, e]
  · obtain rfl := Option.some.inj h
    rw [boolV_eq, sameBytes_eq]; simp [Op.stringOp, e]

theorem shiftOp_run {op : BinOp} {k yk : IntKind} {x : Int} {n : Nat} {v : Value} (h : shiftOp op k x n = some v) : (Op.shift op k x yk n).run P w = .ok v w := by
  have hn : ¬ ((n : Int) < 0) := by omega
  cases op <;> simp only [shiftOp] at h <;> try (cases h; done)
  · obtain rfl := Option.some.inj h
    rw [intV_eq]; simp [Op.shift, hn]
  · obtain rfl := Option.some.inj h
    simp [Op.shift, hn]

theorem eqGuard_run {op : BinOp} {t : TypeId} {x y : Operand} {a b : Value} (h : a ≠ .nilIface) (h' : ∀ l, a ≠ .agg l) : (eqGuard op t x y a b).run P w = .ok () w := by
  cases op <;> cases a <;> first | (exact absurd rfl h) | (exact absurd rfl (h' _)) | rfl

theorem biased_eq {b : Int} {c : Nat} (h : biased b = some c) : (c : Int) = b + 9223372036854775808 := by
  cases b with
  | ofNat n =>
    simp only [biased, Option.some.injEq] at h
    subst h
    show ((n + 9223372036854775808 : Nat) : Int) = (n : Int) + 9223372036854775808
    omega
  | negSucc n =>
    simp only [biased] at h
    cases hb : Nat.ble n 9223372036854775807 with
    | false => rw [hb] at h; cases h
    | true =>
      rw [hb] at h
      have hn := Nat.le_of_ble_eq_true hb
      obtain rfl := Option.some.inj h
      show ((9223372036854775807 - n : Nat) : Int) = Int.negSucc n + 9223372036854775808
      omega

theorem blt_true {m n : Nat} (h : Nat.blt m n = true) : m < n := Nat.le_of_ble_eq_true h
theorem blt_false {m n : Nat} (h : Nat.blt m n = false) : n ≤ m := by
  apply Nat.le_of_not_lt
  intro e
  have : Nat.ble (m + 1) n = true := Nat.ble_eq_true_of_le e
  rw [show Nat.ble (m + 1) n = Nat.blt m n from rfl, h] at this
  cases this

theorem symLt_eq {lo hi c : Nat} {neg : Bool} {v : Value} (h : symLt lo hi c neg = some v) : (hi < c ∧ v = .bool (!neg)) ∨ (c ≤ lo ∧ v = .bool neg) := by
  unfold symLt at h
  cases h1 : Nat.blt hi c with
  | true =>
    rw [h1, cond_true, boolV_eq] at h
    obtain rfl := Option.some.inj h
    exact .inl ⟨blt_true h1, by cases neg <;> rfl⟩
  | false =>
    rw [h1, cond_false] at h
    cases h2 : Nat.ble c lo with
    | true =>
      rw [h2, cond_true, boolV_eq] at h
      obtain rfl := Option.some.inj h
      exact .inr ⟨Nat.le_of_ble_eq_true h2, by cases neg <;> rfl⟩
    | false => rw [h2] at h; cases h

theorem symLe_eq {lo hi c : Nat} {neg : Bool} {v : Value} (h : symLe lo hi c neg = some v) : (hi ≤ c ∧ v = .bool (!neg)) ∨ (c < lo ∧ v = .bool neg) := by
  unfold symLe at h
  cases h1 : Nat.ble hi c with
  | true =>
    rw [h1, cond_true, boolV_eq] at h
    obtain rfl := Option.some.inj h
    exact .inl ⟨Nat.le_of_ble_eq_true h1, by cases neg <;> rfl⟩
  | false =>
    rw [h1, cond_false] at h
    cases h2 : Nat.blt c lo with
    | true =>
      rw [h2, cond_true, boolV_eq] at h
      obtain rfl := Option.some.inj h
      exact .inr ⟨blt_true h2, by cases neg <;> rfl⟩
    | false => rw [h2] at h; cases h

theorem symEq_eq {lo hi c : Nat} {neg : Bool} {v : Value} (h : symEq lo hi c neg = some v) : (hi < c ∨ c < lo) ∧ v = .bool neg := by
  unfold symEq at h
  cases h1 : (Nat.blt hi c || Nat.blt c lo) with
  | true =>
    rw [h1, cond_true, boolV_eq] at h
    obtain rfl := Option.some.inj h
    rw [Bool.or_eq_true] at h1
    exact ⟨h1.imp blt_true blt_true, rfl⟩
  | false => rw [h1] at h; cases h

theorem symOp_int {op : BinOp} {lo hi c : Nat} {v : Value} {z b : Int} (h : symOp op lo hi c = some v) (hb : (c : Int) = b + 9223372036854775808) (h1 : (lo : Int) ≤ z + 9223372036854775808) (h2 : z + 9223372036854775808 ≤ hi) : intOp op .i64 z b = some v := by
  cases op <;> simp only [symOp] at h <;> try (cases h; done)
  all_goals simp only [intOp, boolV_eq]
  · obtain ⟨h3, rfl⟩ := symEq_eq h
    rw [decide_eq_false (by omega)]
  · obtain ⟨h3, rfl⟩ := symEq_eq h
    rw [decide_eq_false (by omega)]; rfl
  · rcases symLt_eq h with ⟨h3, rfl⟩ | ⟨h3, rfl⟩
    · rw [decide_eq_true (by omega)]; rfl
    · rw [decide_eq_false (by omega)]
  · rcases symLe_eq h with ⟨h3, rfl⟩ | ⟨h3, rfl⟩
    · rw [decide_eq_true (by omega)]; rfl
    · rw [decide_eq_false (by omega)]
  · rcases symLe_eq h with ⟨h3, rfl⟩ | ⟨h3, rfl⟩
    · rw [decide_eq_false (by omega)]; rfl
    · rw [decide_eq_true (by omega)]
  · rcases symLt_eq h with ⟨h3, rfl⟩ | ⟨h3, rfl⟩
    · rw [decide_eq_false (by omega)]; rfl
    · rw [decide_eq_true (by omega)]

theorem flip_int {op : BinOp} {lo hi c : Nat} {v : Value} {z a : Int} (h : symOp (flip op) lo hi c = some v) (hi' : intOp (flip op) .i64 z a = some v) : intOp op .i64 a z = some v := by
  cases op <;> first | exact hi' | (simp [flip, symOp] at h; done) | (rw [← hi']; simp only [flip, intOp, eq_comm])

theorem binInt_ok {op : BinOp} {t : TypeId} {k : IntKind} {a : Int} {y y' v : Value} {xo yo : Operand} (h : binInt op k a y s = some (v, s')) (pre : Pre Γ ρ s w s') (hy : VR ρ y y') :
    DoesV P Γ ρ s w (do eqGuard op t xo yo (.int k a) y'; Go.binOp op t (.int k a) y') v s' := by
  unfold binInt at h
  split at h
  · rename_i lo hi
    cases hy with
    | sym lo hi z g1 g2 g3 =>
      unfold addSym at h
      split at h
      · split at h
        · split at h
          · rename_i n
            simp only [need_eq, force_eq, pure_eq, Prod.mk.injEq] at h
            obtain ⟨hb, rfl, rfl⟩ := h
            have hb : hi + n + 1 ≤ 18446744073709551616 := Nat.le_of_ble_eq_true hb
            have hw : IntKind.i64.wrap ((n : Int) + z) = (n : Int) + z := by simp [IntKind.wrap, IntKind.bits, IntKind.signed]; omega
            have hr : (modelInt .add .i64 (Int.ofNat n) z).run P w = .ok (.int .i64 ((n : Int) + z)) w := intOp_run (P := P) (w := w) (by
              simp only [intOp, intV_eq]
              show some (Value.int .i64 (IntKind.i64.wrap ((n : Int) + z))) = _
              rw [hw])
            refine .of_run pre rfl (v' := .int .i64 ((n : Int) + z)) ?_ (.sym _ _ _ ?_ ?_ ?_)
            · simp only [Sem.run_bind, eqGuard_run (P := P) (w := w) (op := .add) (t := t) (x := xo) (y := yo) (a := .int .i64 (Int.ofNat n)) (b := .int .i64 z) (by simp) (by simp), Result.andThen_ok]
              exact hr
            · show ((lo + n : Nat) : Int) ≤ _
              omega
            · show _ ≤ ((hi + n : Nat) : Int)
              omega
            · show hi + n < _
              omega
          · simp [EM.fail] at h
        · simp [EM.fail] at h
      · rename_i hadd
        split at h
        · simp only [lift_eq, Opt.go_eq, Prod.mk.injEq] at h
          obtain ⟨u, ⟨c, hc, hu⟩, rfl, rfl⟩ := h
          have hz := flip_int hu (symOp_int hu (biased_eq hc) g1 g2)
          have hr := intOp_run (P := P) (w := w) hz
          have hv : ∃ b, v = .bool b := by
            generalize flip op = op' at hu
            cases op' <;> simp only [symOp] at hu <;> first | (cases hu; done) | (obtain ⟨-, rfl⟩ := symEq_eq hu; exact ⟨_, rfl⟩) | (rcases symLt_eq hu with ⟨-, rfl⟩ | ⟨-, rfl⟩ <;> exact ⟨_, rfl⟩) | (rcases symLe_eq hu with ⟨-, rfl⟩ | ⟨-, rfl⟩ <;> exact ⟨_, rfl⟩)
          obtain ⟨bb, rfl⟩ := hv
          refine .of_run pre rfl (v' := .bool bb) ?_ (.bool _)
          simp only [Sem.run_bind, eqGuard_run (P := P) (w := w) (op := op) (t := t) (x := xo) (y := yo) (a := .int .i64 a) (b := .int .i64 z) (by simp) (by simp), Result.andThen_ok]
          rw [← hr]
          cases op <;> first | (simp [flip, symOp] at hu; done) | (simp [Go.binOp, modelInt]; done) | rfl
        · simp [EM.fail] at h
  · rename_i k' b
    cases hy
    have hg : ∀ w, (eqGuard op t xo yo (.int k a) (.int k' b)).run P w = .ok () w := fun w => eqGuard_run (by simp) (by simp)
    split at h
    · split at h
      · rename_i n
        simp only [EM.lift, Opt.go_eq, Option.some.injEq, Prod.mk.injEq] at h
        obtain ⟨u, hu, rfl, rfl⟩ := h
        have hv : VR ρ u u := by
          simp only [shiftOp, intV_eq] at hu
          obtain rfl := Option.some.inj hu; exact .int _ _
        exact .of_run pre rfl (by simp only [Sem.run_bind, hg, Result.andThen_ok, Go.binOp]; exact shiftOp_run hu) hv
      · simp [EM.fail] at h
    · split at h
      · rename_i n
        simp only [EM.lift, Opt.go_eq, Option.some.injEq, Prod.mk.injEq] at h
        obtain ⟨u, hu, rfl, rfl⟩ := h
        have hv : VR ρ u u := by
          simp only [shiftOp] at hu
          obtain rfl := Option.some.inj hu; exact .int _ _
        exact .of_run pre rfl (by simp only [Sem.run_bind, hg, Result.andThen_ok, Go.binOp]; exact shiftOp_run hu) hv
      · simp [EM.fail] at h
    · rename_i n1 n2
      split at h
      · rename_i hk
        subst hk
        simp only [EM.lift, Opt.go_eq, Option.some.injEq, Prod.mk.injEq] at h
        obtain ⟨u, hu, rfl, rfl⟩ := h
        have hr := intOp_run (P := P) (w := w) hu
        have hv : VR ρ u u := by
          have : (∃ k n, u = .int k n) ∨ ∃ b, u = .bool b := by
            cases op <;> simp only [modelInt, Op.intArith, Op.intDiv, Op.intBits, Op.intCmp, Op.shift] at hr <;> (try split at hr) <;> first
              | exact absurd rfl n1
              | exact absurd rfl n2
              | (simp only [Sem.run_pure, Result.ok.injEq] at hr; exact .inl ⟨_, _, hr.1.symm⟩)
              | (simp only [Sem.run_pure, Result.ok.injEq] at hr; exact .inr ⟨_, hr.1.symm⟩)
              | (simp [runtimePanic, goPanic] at hr; done)
              | (simp [stuck] at hr; done)
          rcases this with ⟨k, n, rfl⟩ | ⟨b, rfl⟩
          · exact .int _ _
          · exact .bool _
        refine .of_run pre rfl ?_ hv
        simp only [Sem.run_bind, hg, Result.andThen_ok]
        rw [← hr]
        cases op <;> first | (exact absurd rfl n1) | (exact absurd rfl n2) | (simp [Go.binOp, modelInt]; done) | rfl
      · simp [EM.fail] at h
  · simp [EM.fail] at h

theorem Pre.split {s1 : HS} {ρ1 : Rho} {w1 : World} (pre : Pre Γ ρ s w s') (st : Stp Γ ρ s w ρ1 s1 w1) (h1 : s.nx ≤ s1.nx) : Pre Γ ρ1 s1 w1 s' :=
  ⟨st.inv, fun i hi hi' => by
    cases hx : ρ1 i with
    | none => rfl
    | some rb =>
      rcases st.dom i rb hx with h | ⟨_, h⟩
      · rw [pre.free i (by omega) hi'] at h; cases h
      · omega, pre.fix.step st⟩

theorem Pre.cut {s1 : HS} (pre : Pre Γ ρ s w s') (h : s1.nx ≤ s'.nx) : Pre Γ ρ s w s1 := ⟨pre.inv, fun i hi hi' => pre.free i hi (by omega), pre.fix⟩

theorem binStr_ok {op : BinOp} {t : TypeId} {a : ByteArray} {y y' v : Value} {xo yo : Operand} (h : binStr op a y s = some (v, s')) (pre : Pre Γ ρ s w s') (hy : VR ρ y y') :
    DoesV P Γ ρ s w (do eqGuard op t xo yo (.string a) y'; Go.binOp op t (.string a) y') v s' := by
  unfold binStr at h
  split at h
  · rename_i b
    cases hy
    simp only [EM.lift, Opt.go_eq, Option.some.injEq, Prod.mk.injEq] at h
    obtain ⟨u, hu, rfl, rfl⟩ := h
    have hg : ∀ w, (eqGuard op t xo yo (.string a) (.string b)).run P w = .ok () w := fun w => eqGuard_run (by simp) (by simp)
    have hr := strOp_run (P := P) (w := w) hu
    have hv : VR ρ u u := by
      cases op <;> simp only [strOp] at hu <;> try (cases hu; done)
      · cases hb : Nat.ble 1000000000 (a.size + b.size) with
        | true => rw [hb] at hu; cases hu
        | false => rw [hb, cond_false] at hu; obtain rfl := Option.some.inj hu; exact .str _
      · rw [boolV_eq] at hu; obtain rfl := Option.some.inj hu; exact .bool _
      · rw [boolV_eq] at hu; obtain rfl := Option.some.inj hu; exact .bool _
    refine .of_run pre rfl ?_ hv
    simp only [Sem.run_bind, hg, Result.andThen_ok]
    rw [← hr]
    cases op <;> first | rfl | (simp only [strOp] at hu; cases hu; done)
  · simp [EM.fail] at h

theorem metaOf_strip (x : IObj) : metaOf (strip x) = metaOf x := by cases x <;> rfl

theorem metaOf_some {x : IObj} {m : Bool × Bool} (h : metaOf x = some m) : ∃ c e l, x = .cells c e l m.1 m.2 := by
  cases x <;> simp [metaOf] at h
  subst h; exact ⟨_, _, _, rfl⟩

theorem ptrEq_ok {a b : Addr} {r : Bool} {x' y' : Addr} (h : ptrEq a b s = some (r, s')) (inv : Inv Γ ρ s.h w) (hx : VR ρ (.pointer (some a)) (.pointer (some x'))) (hy : VR ρ (.pointer (some b)) (.pointer (some y'))) :
    (sameAddr x' y').run P w = .ok r w ∧ s'.h = s.h ∧ s'.nx = s.nx := by
  unfold ptrEq at h
  simp only [bind_eq, have_eq, need_eq] at h
  obtain ⟨x, s1, h1, y, s2, h2, mx, hmx, my, hmy, -, h⟩ := h
  obtain ⟨x0, g1, rfl, e1, n1⟩ := hget_spec h1
  obtain ⟨y0, g2, rfl, e2, n2⟩ := hget_spec h2
  rw [metaOf_strip] at hmx hmy
  cases hx with
  | ptr bx ox rbx px qx =>
  cases hy with
  | ptr by_ oy rby py qy =>
    obtain ⟨cx, ex, lx, rfl⟩ := metaOf_some hmx
    obtain ⟨cy, ey, ly, rfl⟩ := metaOf_some hmy
    rw [e1] at g2
    have O1 := inv.obj bx _ rbx g1 px
    have O2 := inv.obj by_ _ rby g2 py
    cases hb : Nat.beq bx by_ with
    | true =>
      have hbe := Nat.eq_of_beq_eq_true hb
      subst hbe
      have : rbx = rby := Option.some.inj (px.symm.trans py)
      subst this
      simp only [hb, cond_true, pure_eq, Prod.mk.injEq] at h
      obtain ⟨rfl, rfl⟩ := h
      refine ⟨?_, by rw [e2, e1], by rw [n2, n1]⟩
      unfold sameAddr
      have e : ((⟨rbx.blk, rbx.off + ox, none⟩ : Addr) == ⟨rbx.blk, rbx.off + oy, none⟩) = Nat.beq ox oy := by
        rw [Bool.eq_iff_iff, beq_iff_eq]
        exact ⟨fun h => by have h' : rbx.off + ox = rbx.off + oy := congrArg Addr.off h
                           have : ox = oy := by omega
                           subst this; exact Nat.beq_refl _, fun h => by rw [Nat.eq_of_beq_eq_true h]⟩
      simp [e]
    | false =>
      simp only [hb, cond_false, need_eq, pure_eq, Prod.mk.injEq] at h
      obtain ⟨hm, rfl, rfl⟩ := h
      simp only [Bool.not_eq_true', Bool.or_eq_false_iff] at hm
      obtain ⟨⟨⟨r1, r2⟩, r3⟩, r4⟩ := hm
      obtain ⟨rx, sx⟩ := mx
      obtain ⟨ry, sy⟩ := my
      simp only at r1 r2 r3 r4
      subst r1 r2 r3 r4
      have hne : bx ≠ by_ := fun e => by rw [e, Nat.beq_refl] at hb; cases hb
      have hblk := inv.apart bx by_ _ _ rbx rby hne g1 g2 rfl rfl px py qx qy (.inl rfl)
      obtain ⟨csx, ex', frx, w1, c1⟩ := O1.2 qx
      obtain ⟨csy, ey', fry, w2, c2⟩ := O2.2 qy
      refine ⟨?_, by rw [e2, e1], by rw [n2, n1]⟩
      have f1 : ∀ o, w.frozen? ⟨rbx.blk, o, none⟩ = false := fun o => by
        unfold World.frozen?; rw [w1]
        have := c1.plain rfl rfl o
        simp only [Bool.and_eq_false_iff, decide_eq_false_iff_not]
        by_cases h : frx.1 ≤ o
        · exact .inr fun h2 => this ⟨h, h2⟩
        · exact .inl h
      have f2 : ∀ o, w.frozen? ⟨rby.blk, o, none⟩ = false := fun o => by
        unfold World.frozen?; rw [w2]
        have := c2.plain rfl rfl o
        simp only [Bool.and_eq_false_iff, decide_eq_false_iff_not]
        by_cases h : fry.1 ≤ o
        · exact .inr fun h2 => this ⟨h, h2⟩
        · exact .inl h
      have s1 : w.shape? rbx.blk = some (ex', csx.size) := by unfold World.shape?; rw [w1]
      have s2 : w.shape? rby.blk = some (ey', csy.size) := by unfold World.shape?; rw [w2]
      have hbq : (rbx.blk == rby.blk) = false := by simpa using hblk
      simp only [sameAddr, hbq, Sem.run_bind, run_frozen, f1, f2, Result.andThen_ok, noView, viewAt, run_shape, s1, s2, mayBeOne, stringish, Bool.and_false, Bool.false_and,
        Bool.false_eq_true, if_false, Sem.run_pure, Option.isSome_some, if_true, Bool.or_self, Option.isSome_none, Sem.run_ite]

end ops
end Go.Ideal

/-
  How an ideal heap and a world stand to each other, and what the first operations on memory do to both. Conditions: none.
-/
import Derived.Test.YtpoaiachllclhaaGreatDoorLocAll
import Derived.Laws.Sem
namespace Go.Ideal
open Go

/-- where the ideal blocks lie, and what the names stand for -/
structure Rho where
  at_ : Nat → Option RB
  σ : Nat → Value
instance : CoeFun Rho (fun _ => Nat → Option RB) := ⟨Rho.at_⟩
structure Rho.le (ρ ρ' : Rho) : Prop where
  val : ρ'.σ = ρ.σ
  get : ∀ i rb, ρ i = some rb → ρ' i = some rb
theorem Rho.le.refl (ρ : Rho) : Rho.le ρ ρ := ⟨rfl, fun _ _ h => h⟩
theorem Rho.le.trans {a b c : Rho} (h : Rho.le a b) (k : Rho.le b c) : Rho.le a c := ⟨k.val.trans h.val, fun i rb e => k.get i rb (h.get i rb e)⟩

def CapR (rb : RB) (off c c' : Nat) : Prop := c' = c ∨ (rb.loose = true ∧ c ≤ c' ∧ off + c * rb.esz = rb.n ∧ off + c' * rb.esz = rb.k)

inductive VR (ρ : Rho) : Value → Value → Prop
  | bool (b : Bool) : VR ρ (.bool b) (.bool b)
  | int (k : IntKind) (n : Int) : VR ρ (.int k n) (.int k n)
  | str (s : ByteArray) : VR ρ (.string s) (.string s)
  | ptr0 : VR ρ (.pointer none) (.pointer none)
  | ptr (b o : Nat) (rb : RB) : ρ b = some rb → rb.ghost = false → VR ρ (.pointer (some ⟨b, o, none⟩)) (.pointer (some ⟨rb.blk, rb.off + o, none⟩))
  | sl0 (n c : Nat) : VR ρ (.slice none n c) (.slice none n c)
  | sl (b o n c c' : Nat) (rb : RB) : ρ b = some rb → rb.ghost = false → CapR rb o c c' → VR ρ (.slice (some ⟨b, o, none⟩) n c) (.slice (some ⟨rb.blk, rb.off + o, none⟩) n c')
  | slg (b o c' : Nat) (a' : Addr) (rb : RB) : ρ b = some rb → rb.ghost = true → VR ρ (.slice (some ⟨b, o, none⟩) 0 0) (.slice (some a') 0 c')
  | map0 : VR ρ (.map none) (.map none)
  | map (r : Nat) (rb : RB) : ρ r = some rb → VR ρ (.map (some r)) (.map (some rb.blk))
  | chan (r : Nat) (rb : RB) : ρ r = some rb → VR ρ (.chan (some r)) (.chan (some rb.blk))
  | nilF : VR ρ .nilFunc .nilFunc
  | nilI : VR ρ .nilIface .nilIface
  | sym (lo hi : Nat) (z : Int) : (lo : Int) ≤ z + 9223372036854775808 → z + 9223372036854775808 ≤ hi → hi < 18446744073709551616 → VR ρ (.complex .f64 lo hi) (.int .i64 z)
  | sym8 (lo hi : Nat) (z : Int) : (lo : Int) ≤ z → z ≤ hi → hi < 256 → VR ρ (.complex .f32 lo hi) (.int .u8 z)
  | opq (n : Nat) (a : Option Addr) (c : Nat) : VR ρ (.float .f64 n) (.slice a n c)
  | name (i : Nat) : (∀ l, ρ.σ i ≠ .agg l) → (∀ l, ρ.σ i ≠ .tuple l) → VR ρ (.float .f32 i) (ρ.σ i)
  | any (v : Value) : (∀ l, v ≠ .agg l) → (∀ l, v ≠ .tuple l) → VR ρ (.chan none) v
  | fn (f : FuncId) (l l' m m' : List Value) : l.length = l'.length → (∀ (j : Nat) v v', l[j]? = some v → l'[j]? = some v' → VR ρ v v') →
      m.length = m'.length → (∀ (j : Nat) v v', m[j]? = some v → m'[j]? = some v' → VR ρ v v') → VR ρ (.func (.func f) l.toArray m.toArray) (.func (.func f) l'.toArray m'.toArray)
  | yld (l : Nat) (rb : RB) : ρ l = some rb → VR ρ (.func (.yield l) #[] #[]) (.func (.yield rb.blk) #[] #[])
  | agg (l l' : List Value) : l.length = l'.length → (∀ (j : Nat) v v', l[j]? = some v → l'[j]? = some v' → VR ρ v v') → VR ρ (.agg l.toArray) (.agg l'.toArray)
  | tup (l l' : List Value) : l.length = l'.length → (∀ (j : Nat) v v', l[j]? = some v → l'[j]? = some v' → VR ρ v v') → VR ρ (.tuple l.toArray) (.tuple l'.toArray)

def VRs (ρ : Rho) (l l' : List Value) : Prop := l.length = l'.length ∧ ∀ (j : Nat) v v', l[j]? = some v → l'[j]? = some v' → VR ρ v v'

theorem VR.mono {ρ ρ' : Rho} (h : Rho.le ρ ρ') {v v' : Value} (hv : VR ρ v v') : VR ρ' v v' := by
  induction hv with
  | bool b => exact .bool b
  | int k n => exact .int k n
  | str s => exact .str s
  | ptr0 => exact .ptr0
  | ptr b o rb h1 h2 => exact .ptr b o rb (h.get _ _ h1) h2
  | sl0 n c => exact .sl0 n c
  | sl b o n c c' rb h1 h2 h3 => exact .sl b o n c c' rb (h.get _ _ h1) h2 h3
  | slg b o c' a' rb h1 h2 => exact .slg b o c' a' rb (h.get _ _ h1) h2
  | map0 => exact .map0
  | map r rb h1 => exact .map r rb (h.get _ _ h1)
  | chan r rb h1 => exact .chan r rb (h.get _ _ h1)
  | nilF => exact .nilF
  | nilI => exact .nilI
  | sym lo hi z h1 h2 h3 => exact .sym lo hi z h1 h2 h3
  | sym8 lo hi z h1 h2 h3 => exact .sym8 lo hi z h1 h2 h3
  | opq n a c => exact .opq n a c
  | name i h1 h2 => rw [← h.val] at h1 h2 ⊢; exact .name i h1 h2
  | any v h1 h2 => exact .any v h1 h2
  | fn f l l' m m' h1 _ h3 _ ih1 ih2 => exact .fn f l l' m m' h1 ih1 h3 ih2
  | yld l rb h1 => exact .yld l rb (h.get _ _ h1)
  | agg l l' h1 _ ih => exact .agg l l' h1 ih
  | tup l l' h1 _ ih => exact .tup l l' h1 ih

theorem VRs.mono {ρ ρ' : Rho} (h : Rho.le ρ ρ') {l l' : List Value} (hv : VRs ρ l l') : VRs ρ' l l' := ⟨hv.1, fun j v v' a b => (hv.2 j v v' a b).mono h⟩
theorem VRs.nil (ρ : Rho) : VRs ρ [] [] := ⟨rfl, fun j v v' h => by simp at h⟩
theorem VRs.cons {ρ : Rho} {v v' : Value} {l l' : List Value} (h : VR ρ v v') (hl : VRs ρ l l') : VRs ρ (v :: l) (v' :: l') := by
  refine ⟨by simp [hl.1], fun j a a' ha ha' => ?_⟩
  cases j with
  | zero => simp at ha ha'; subst ha ha'; exact h
  | succ j => simp at ha ha'; exact hl.2 j a a' ha ha'
theorem VRs.head {ρ : Rho} {v v' : Value} {l l' : List Value} (h : VRs ρ (v :: l) (v' :: l')) : VR ρ v v' := h.2 0 v v' rfl rfl
theorem VRs.tail {ρ : Rho} {v v' : Value} {l l' : List Value} (h : VRs ρ (v :: l) (v' :: l')) : VRs ρ l l' :=
  ⟨by simpa using h.1, fun j a a' ha ha' => h.2 (j + 1) a a' (by simpa using ha) (by simpa using ha')⟩
theorem VRs.ex {ρ : Rho} {v : Value} {l l' : List Value} (h : VRs ρ (v :: l) l') : ∃ v' r', l' = v' :: r' ∧ VR ρ v v' ∧ VRs ρ l r' := by
  cases l' with
  | nil => have := h.1; simp at this
  | cons v' r' => exact ⟨v', r', rfl, h.head, h.tail⟩
theorem VRs.nil_ex {ρ : Rho} {l' : List Value} (h : VRs ρ [] l') : l' = [] := by
  have := h.1; simp at this; exact List.eq_nil_of_length_eq_zero this.symm
theorem VRs.append {ρ : Rho} {a a' b b' : List Value} (h : VRs ρ a a') (k : VRs ρ b b') : VRs ρ (a ++ b) (a' ++ b') := by
  refine ⟨by simp [h.1, k.1], fun j v v' hv hv' => ?_⟩
  have e := h.1
  by_cases hj : j < a.length
  · rw [List.getElem?_append_left hj] at hv; rw [List.getElem?_append_left (by omega)] at hv'; exact h.2 j v v' hv hv'
  · rw [List.getElem?_append_right (by omega)] at hv; rw [List.getElem?_append_right (by omega)] at hv'
    exact k.2 (j - a.length) v v' hv (by rw [e]; exact hv')
theorem VRs.get {ρ : Rho} {l l' : List Value} (h : VRs ρ l l') {j : Nat} {v : Value} (hv : l[j]? = some v) : ∃ v', l'[j]? = some v' ∧ VR ρ v v' := by
  have hj : j < l'.length := by rw [← h.1]; exact (List.getElem?_eq_some_iff.1 hv).1
  exact ⟨l'[j], List.getElem?_eq_getElem hj, h.2 j v _ hv (List.getElem?_eq_getElem hj)⟩
theorem VR.agg' {ρ : Rho} {l l' : List Value} (h : VRs ρ l l') : VR ρ (.agg l.toArray) (.agg l'.toArray) := .agg l l' h.1 h.2
theorem VR.tup' {ρ : Rho} {l l' : List Value} (h : VRs ρ l l') : VR ρ (.tuple l.toArray) (.tuple l'.toArray) := .tup l l' h.1 h.2

theorem flat_VR (ρ : Rho) {v : Value} (h : flat v = true) : VR ρ v v := by
  unfold flat at h
  split at h <;> first | (exact .bool _) | (exact .int _ _) | (exact .str _) | (exact .ptr0) | (exact .sl0 _ _) | (exact .map0) | (exact .nilF) | (exact .nilI) | (cases h)

theorem VRs.refl_of {ρ : Rho} {l : List Value} (h : ∀ v ∈ l, VR ρ v v) : VRs ρ l l :=
  ⟨rfl, fun j v v' hv hv' => by rw [hv] at hv'; obtain rfl := Option.some.inj hv'; exact h v (List.mem_of_getElem? hv)⟩

theorem plainConst_VR (ρ : Rho) {v : Value} (h : plainConst v = true) : VR ρ v v := by
  unfold plainConst at h
  split at h
  · rename_i cs
    have : VRs ρ cs.toList cs.toList := VRs.refl_of fun v hv => flat_VR ρ (List.all_eq_true.1 h v hv)
    exact VR.agg' this
  · rename_i cs
    have e : cs.toList = [] := by simpa using h
    have : VRs ρ cs.toList cs.toList := by rw [e]; exact VRs.nil ρ
    exact VR.tup' this
  · exact flat_VR ρ h

/-! ### Frames, objects, heaps -/
def TR (ρ : Rho) (T : Env) (tmps : Array Value) : Prop := ∀ t v, T.get t = some v → ∃ v', tmps[t]? = some v' ∧ VR ρ v v'
theorem TR.mono {ρ ρ' : Rho} (h : Rho.le ρ ρ') {T : Env} {tm : Array Value} (ht : TR ρ T tm) : TR ρ' T tm := fun t v hv => let ⟨v', a, b⟩ := ht t v hv; ⟨v', a, b.mono h⟩

/-- entries of a map -/
def ERs (ρ : Rho) (es : List (Value × Value × Nat)) (es' : List MapEntry) : Prop :=
  es.length = es'.length ∧ ∀ (j : Nat) e e', es[j]? = some e → es'[j]? = some e' → e'.key = e.1 ∧ flat e.1 = true ∧ VR ρ e.2.1 e'.val ∧ e'.born = e.2.2
theorem ERs.mono {ρ ρ' : Rho} (h : Rho.le ρ ρ') {es es'} (he : ERs ρ es es') : ERs ρ' es es' :=
  ⟨he.1, fun j e e' a b => let ⟨x, y, z, u⟩ := he.2 j e e' a b; ⟨x, y, z.mono h, u⟩⟩

def stateOf : Nat → LoopState
  | 0 => .ready
  | 1 => .busy
  | 2 => .done
  | _ => .exhausted

def OptR (ρ : Rho) : Option Nat → Option Nat → Prop
  | none, none => True
  | some r, some r' => ∃ rb, ρ r = some rb ∧ r' = rb.blk
  | _, _ => False

variable (Γ : Cx)

/-- a block ends where its cells end; one that is not written may go on -/
def CSize (ro : Bool) (a b : Nat) : Prop := (ro = false → a = b) ∧ b ≤ a
theorem CSize.eq {ro : Bool} {a b : Nat} (h : a = b) : CSize ro a b := ⟨fun _ => h, by omega⟩

/-- cells -/
structure CR (ρ : Rho) (rb : RB) (c : List Value) (e : TypeId) (l ro st : Bool) (cs : Array Value) (fr : Nat × Nat) : Prop where
  size : CSize ro cs.size (rb.off + rb.k)
  len : c.length = rb.n
  le : rb.n ≤ rb.k
  loose : rb.loose = l
  tight : l = false → rb.k = rb.n
  esz : l = true → ∃ te, Γ.ty e = some te ∧ te.size = rb.esz ∧ 0 < rb.esz
  cells : ∀ j v, c[j]? = some v → ∃ v', cs[rb.off + j]? = some v' ∧ VR ρ v v'
  free : ro = false → ∀ o, rb.off ≤ o → o < cs.size → ¬ (fr.1 ≤ o ∧ o < fr.2)
  plain : ro = false → st = false → ∀ o, ¬ (fr.1 ≤ o ∧ o < fr.2)

def OR (ρ : Rho) (w : World) (rb : RB) : IObj → Prop
  | .cells c e l ro st => (rb.ghost = true → ro = true ∧ l = true ∧ c = []) ∧ (rb.ghost = false → ∃ cs e' fr, w.heap[rb.blk]? = some (.cells cs e' fr) ∧ CR Γ ρ rb c e l ro st cs fr)
  | .map es clock => ∃ es', w.heap[rb.blk]? = some (.map es' clock) ∧ ERs ρ es es'.toList ∧ rb.ghost = false
  | .strIter s pos => w.heap[rb.blk]? = some (.stringIter s pos) ∧ rb.ghost = false ∧ rb.off = 0
  | .mapIter m since seen stepped => ∃ m', w.heap[rb.blk]? = some (.mapIter m' since seen.toArray stepped) ∧ OptR ρ m m' ∧ rb.ghost = false ∧ rb.off = 0
  | .loop st pend _ T size ps as bd mk => ∃ lp : Loop, w.heap[rb.blk]? = some (.loop lp) ∧ lp.state = stateOf st ∧ lp.pending = pend ∧ True ∧ TR ρ T lp.tmps ∧ lp.tmps.size = size ∧ lp.params.toList = ps ∧
      lp.assign = as ∧ lp.body = bd ∧ (∃ rb2, ρ mk = some rb2 ∧ lp.defers = rb2.blk) ∧ rb.ghost = false
  | .mark => w.heap[rb.blk]? = some (.deferred (some [])) ∧ rb.ghost = false
  | .chan cap buf => (∃ buf' s r, w.heap[rb.blk]? = some (.chan cap buf' false s r false) ∧ VRs ρ buf buf'.toList) ∧ rb.ghost = false
  | .zeros m e => (∃ te e' fr, Γ.ty e = some te ∧ w.heap[rb.blk]? = some (.cells (repCells te.zero m).toArray e' fr)) ∧ rb.ghost = false ∧ rb.off = 0 ∧ rb.loose = false
  | .dead => True

theorem CR.mono {ρ ρ' : Rho} (h : Rho.le ρ ρ') {rb c e l ro st cs fr} (hc : CR Γ ρ rb c e l ro st cs fr) : CR Γ ρ' rb c e l ro st cs fr :=
  ⟨hc.size, hc.len, hc.le, hc.loose, hc.tight, hc.esz, fun j v hv => let ⟨v', a, b⟩ := hc.cells j v hv; ⟨v', a, b.mono h⟩, hc.free, hc.plain⟩

theorem OR.mono {ρ ρ' : Rho} (h : Rho.le ρ ρ') {w : World} {rb : RB} {x : IObj} (hx : OR Γ ρ w rb x) : OR Γ ρ' w rb x := by
  cases x with
  | cells c e l ro st => exact ⟨hx.1, fun hg => let ⟨cs, e', fr, a, b⟩ := hx.2 hg; ⟨cs, e', fr, a, b.mono Γ h⟩⟩
  | map es clock => obtain ⟨es', a, b, c⟩ := hx; exact ⟨es', a, b.mono h, c⟩
  | strIter s pos => exact hx
  | mapIter m since seen stepped =>
    obtain ⟨m', a, b, c⟩ := hx
    refine ⟨m', a, ?_, c⟩
    cases m <;> cases m' <;> simp only [OptR] at b ⊢
    obtain ⟨rb, e1, e2⟩ := b
    exact ⟨rb, h.get _ _ e1, e2⟩
  | loop st pend fn T size ps as bd mk =>
    obtain ⟨lp, a1, a2, a3, a4, a5, a6, a7, a8, a9, ⟨rb2, b1, b2⟩, a10⟩ := hx
    exact ⟨lp, a1, a2, a3, a4, a5.mono h, a6, a7, a8, a9, ⟨rb2, h.get _ _ b1, b2⟩, a10⟩
  | mark => exact hx
  | chan cap buf => obtain ⟨⟨b', s, r, a, b⟩, c⟩ := hx; exact ⟨⟨b', s, r, a, b.mono h⟩, c⟩
  | zeros m e => exact hx
  | dead => trivial

theorem OR.of_heap {ρ : Rho} {w w' : World} {rb : RB} {x : IObj} (hx : OR Γ ρ w rb x) (hw : w'.heap[rb.blk]? = w.heap[rb.blk]?) : OR Γ ρ w' rb x := by
  cases x <;> simp only [OR, hw] at hx ⊢ <;> exact hx

def live : IObj → Bool
  | .dead => false
  | _ => true
/-- may be written -/
def wrt : IObj → Bool
  | .dead => false
  | .cells _ _ _ ro _ => !ro
  | .zeros _ _ => false
  | _ => true

structure Inv (ρ : Rho) (h : Tr IObj) (w : World) : Prop where
  obj : ∀ i x rb, h.get i = some x → ρ i = some rb → OR Γ ρ w rb x
  apart : ∀ i j x y rb rb', i ≠ j → h.get i = some x → h.get j = some y → live x = true → live y = true → ρ i = some rb → ρ j = some rb' → rb.ghost = false → rb'.ghost = false →
    (wrt x = true ∨ wrt y = true) → rb.blk ≠ rb'.blk
  lim : ∀ i rb, ρ i = some rb → i ≤ 200000

/-- the image of something that may be written -/
def Img (ρ : Rho) (h : Tr IObj) (b : Nat) : Prop := ∃ i x rb, h.get i = some x ∧ wrt x = true ∧ ρ i = some rb ∧ rb.ghost = false ∧ rb.blk = b

/-- the image of something that is there -/
def ImgL (ρ : Rho) (h : Tr IObj) (b : Nat) : Prop := ∃ i x rb, h.get i = some x ∧ live x = true ∧ ρ i = some rb ∧ rb.ghost = false ∧ rb.blk = b

structure Stp (ρ : Rho) (s : HS) (w : World) (ρ' : Rho) (s' : HS) (w' : World) : Prop where
  ext : Rho.le ρ ρ'
  dom : ∀ i rb, ρ' i = some rb → ρ i = some rb ∨ (s.nx ≤ i ∧ i < s'.nx)
  inv : Inv Γ ρ' s'.h w'
  os : w'.os = w.os
  tape : w'.tape = w.tape
  out : w'.output = w.output
  size : w.heap.size ≤ w'.heap.size
  own : ∀ b, Img ρ' s'.h b → w.heap.size ≤ b ∨ Img ρ s.h b
  frame : ∀ b, b < w.heap.size → ¬ Img ρ s.h b → w'.heap[b]? = w.heap[b]?
  ownL : ∀ b, ImgL ρ' s'.h b → w.heap.size ≤ b ∨ ImgL ρ s.h b

variable {Γ}
theorem Stp.trans {ρ ρ1 ρ2 : Rho} {s s1 s2 : HS} {w w1 w2 : World} (h : Stp Γ ρ s w ρ1 s1 w1) (k : Stp Γ ρ1 s1 w1 ρ2 s2 w2) (hn : s.nx ≤ s1.nx) (hn' : s1.nx ≤ s2.nx) : Stp Γ ρ s w ρ2 s2 w2 where
  ext := h.ext.trans k.ext
  dom i rb hi := by
    rcases k.dom i rb hi with hi | ⟨a, b⟩
    · rcases h.dom i rb hi with hi | ⟨a, b⟩
      · exact .inl hi
      · exact .inr ⟨a, by omega⟩
    · exact .inr ⟨by omega, b⟩
  inv := k.inv
  os := k.os.trans h.os
  tape := k.tape.trans h.tape
  out := k.out.trans h.out
  size := Nat.le_trans h.size k.size
  own b hb := by
    rcases k.own b hb with hb | hb
    · exact .inl (Nat.le_trans h.size hb)
    · exact h.own b hb
  frame b hb hi := by
    rw [k.frame b (Nat.lt_of_lt_of_le hb h.size) (fun hh => by rcases h.own b hh with h1 | h1; omega; exact hi h1), h.frame b hb hi]
  ownL b hb := by
    rcases k.ownL b hb with hb | hb
    · exact .inl (Nat.le_trans h.size hb)
    · exact h.ownL b hb

theorem Stp.same {ρ : Rho} {s s' : HS} {w : World} (inv : Inv Γ ρ s.h w) (hh : s'.h = s.h) : Stp Γ ρ s w ρ s' w where
  ext := Rho.le.refl ρ
  dom _ _ h := .inl h
  inv := by rw [hh]; exact inv
  os := rfl
  tape := rfl
  out := rfl
  size := Nat.le_refl _
  own _ hb := .inr (by rw [hh] at hb; exact hb)
  frame _ _ _ := rfl
  ownL _ hb := .inr (by rw [hh] at hb; exact hb)

/-- a draw of the tape -/
theorem Stp.drew {ρ : Rho} {s : HS} {w : World} (inv : Inv Γ ρ s.h w) (n : Nat) : Stp Γ ρ s w ρ s { w with drawn := n } where
  ext := Rho.le.refl ρ
  dom _ _ h := .inl h
  inv := ⟨fun i x rb a b => OR.of_heap Γ (inv.obj i x rb a b) rfl, inv.apart, inv.lim⟩
  os := rfl
  tape := rfl
  out := rfl
  size := Nat.le_refl _
  own _ hb := .inr hb
  frame _ _ _ := rfl
  ownL _ hb := .inr hb

/-! ### Cells, read and written -/
section cells
variable {P : Program} {ρ : Rho} {w : World}

theorem addr_add (b o n : Nat) : (⟨b, o, none⟩ : Addr).add n = ⟨b, o + n, none⟩ := by
  unfold Addr.add; split
  · subst n; rfl
  · rfl

theorem cell_at {b o : Nat} {cs : Array Value} {e : TypeId} {fr : Nat × Nat} (h : w.heap[b]? = some (.cells cs e fr)) : w.cell? ⟨b, o, none⟩ = cs[o]? := by
  unfold World.cell?; rw [h]; rfl

theorem run_loadCellsFrom {b o : Nat} : ∀ (n i : Nat) (acc : Array Value) (l : List Value), l.length = n → (∀ k v, l[k]? = some v → w.cell? ⟨b, o + (i + k), none⟩ = some v) →
    (loadCellsFrom ⟨b, o, none⟩ i n acc).run P w = .ok (acc ++ l.toArray) w := by
  intro n
  induction n with
  | zero =>
    intro i acc l hl _
    have : l = [] := List.eq_nil_of_length_eq_zero hl
    subst this
    simp [loadCellsFrom, Sem.run_pure]
  | succ n ih =>
    intro i acc l hl h
    cases l with
    | nil => simp at hl
    | cons v l =>
      have h0 := h 0 v rfl
      simp only [loadCellsFrom, Sem.run_bind, load, Sem.run, addr_add]
      rw [show w.cell? ⟨b, o + i, none⟩ = some v from h0]
      simp only [Result.andThen_ok]
      rw [ih (i + 1) (acc.push v) l (by simpa using hl) (fun k u hk => by have := h (k + 1) u (by simpa using hk); rw [show i + 1 + k = i + (k + 1) by omega]; exact this)]
      simp

theorem run_loadCells {b o : Nat} {l : List Value} (h : ∀ k v, l[k]? = some v → w.cell? ⟨b, o + k, none⟩ = some v) :
    (loadCells ⟨b, o, none⟩ l.length).run P w = .ok l.toArray w := by
  unfold loadCells
  rw [run_loadCellsFrom l.length 0 #[] l rfl (fun k v hk => by rw [Nat.zero_add]; exact h k v hk)]
  simp

def oneCell : Value → Bool
  | .agg _ | .tuple _ => false
  | _ => true

theorem run_store {b o : Nat} {v : Value} {cs : Array Value} {e : TypeId} {fr : Nat × Nat} (hv : oneCell v = true) (h : w.heap[b]? = some (.cells cs e fr)) (ho : o < cs.size)
    (hf : ¬ (fr.1 ≤ o ∧ o < fr.2)) : (store ⟨b, o, none⟩ v).run P w = .ok () { w with heap := w.heap.setIfInBounds b (.cells (cs.setIfInBounds o v) e fr) } := by
  have hc : w.cell? ⟨b, o, none⟩ = some cs[o] := by rw [cell_at h]; exact Array.getElem?_eq_getElem ho
  have hfz : w.frozen? ⟨b, o, none⟩ = false := by
    unfold World.frozen?; rw [h]
    simp only [Bool.and_eq_false_iff, decide_eq_false_iff_not]
    by_cases h1 : fr.1 ≤ o
    · exact .inr fun h2 => hf ⟨h1, h2⟩
    · exact .inl h1
  have hset : w.setCell ⟨b, o, none⟩ v = { w with heap := w.heap.setIfInBounds b (.cells (cs.setIfInBounds o v) e fr) } := by
    unfold World.setCell
    congr 1
    apply Array.ext_getElem?
    intro j
    rw [Array.getElem?_modify, Array.getElem?_setIfInBounds]
    by_cases hj : b = j
    · subst hj
      rw [h]
      have hb : b < w.heap.size := by
        have := Array.getElem?_eq_some_iff.1 h; exact this.1
      simp [hb]
    · simp [hj]
  unfold store
  cases v <;> simp [oneCell] at hv <;> simp only [Sem.run, hc, hfz, hset] <;> rfl

theorem run_storeCells {b : Nat} {e : TypeId} {fr : Nat × Nat} : ∀ (vs : List Value) (o i : Nat) (w : World) (cs : Array Value), (∀ v ∈ vs, oneCell v = true) → w.heap[b]? = some (.cells cs e fr) → o + i + vs.length ≤ cs.size →
    (∀ k, o + i ≤ k → k < o + i + vs.length → ¬ (fr.1 ≤ k ∧ k < fr.2)) →
    ∃ cs', (storeCells ⟨b, o, none⟩ vs i).run P w = .ok () { w with heap := w.heap.setIfInBounds b (.cells cs' e fr) } ∧ cs'.size = cs.size ∧
      ∀ k, cs'[k]? = if o + i ≤ k ∧ k < o + i + vs.length then vs[k - (o + i)]? else cs[k]? := by
  intro vs
  induction vs with
  | nil =>
    intro o i w cs _ h _ _
    have hb : b < w.heap.size := (Array.getElem?_eq_some_iff.1 h).1
    refine ⟨cs, ?_, rfl, fun k => by rw [if_neg (by simp)]⟩
    simp only [storeCells, Sem.run_pure]
    congr 1
    cases w with
    | mk heap tape drawn os output =>
      simp only [World.mk.injEq, and_true]
      apply Array.ext_getElem?
      intro j
      rw [Array.getElem?_setIfInBounds]
      by_cases hj : b = j
      · subst hj; simp only [if_true, hb]; exact h
      · simp [hj]
  | cons v vs ih =>
    intro o i w cs hv h hle hf
    have hb : b < w.heap.size := (Array.getElem?_eq_some_iff.1 h).1
    simp only [List.length_cons] at hle hf
    have h1 := run_store (P := P) (hv v (by simp)) h (show o + i < cs.size by omega) (hf (o + i) (by omega) (by omega))
    have h2 : ({ w with heap := w.heap.setIfInBounds b (.cells (cs.setIfInBounds (o + i) v) e fr) } : World).heap[b]? = some (.cells (cs.setIfInBounds (o + i) v) e fr) := by
      show (w.heap.setIfInBounds b _)[b]? = _
      rw [Array.getElem?_setIfInBounds]; simp [hb]
    obtain ⟨cs', e1, e2, e3⟩ := ih o (i + 1) _ _ (fun u hu => hv u (by simp [hu])) h2 (by simp; omega) (fun k hk hk' => hf k (by omega) (by omega))
    refine ⟨cs', ?_, by rw [e2]; simp, fun k => ?_⟩
    · simp only [storeCells, Sem.run_bind, addr_add, h1, Result.andThen_ok, e1]
      congr 2
      show (w.heap.setIfInBounds b _).setIfInBounds b _ = _
      apply Array.ext_getElem?
      intro j
      simp only [Array.getElem?_setIfInBounds, Array.size_setIfInBounds]
      by_cases hj : b = j
      · subst hj; simp [hb]
      · simp [hj]
    · rw [e3]
      by_cases hk : o + (i + 1) ≤ k ∧ k < o + (i + 1) + vs.length
      · rw [if_pos hk, if_pos (by simp; omega)]
        rw [show k - (o + i) = (k - (o + (i + 1))) + 1 by omega]; simp
      · rw [if_neg hk, Array.getElem?_setIfInBounds]
        by_cases hk0 : o + i = k
        · subst hk0
          rw [if_pos rfl, if_pos (show o + i < cs.size by omega), if_pos (show o + i ≤ o + i ∧ o + i < o + i + (v :: vs).length by simp only [List.length_cons]; omega)]; simp
        · rw [if_neg hk0, if_neg (by simp; omega)]

end cells

/-! ### One object written, made, given up -/
section objects
variable {P : Program} {ρ : Rho} {w : World} {s s' : HS}

theorem OR.of_heap_g {w w' : World} {rb : RB} {x : IObj} (hx : OR Γ ρ w rb x) (hw : rb.ghost = false → live x = true → w'.heap[rb.blk]? = w.heap[rb.blk]?) : OR Γ ρ w' rb x := by
  cases x with
  | cells c e l ro st => exact ⟨hx.1, fun hg => by rw [hw hg rfl]; exact hx.2 hg⟩
  | map es clock => exact OR.of_heap Γ hx (hw (by obtain ⟨_, _, _, h⟩ := hx; exact h) rfl)
  | strIter s pos => exact OR.of_heap Γ hx (hw hx.2.1 rfl)
  | mapIter m since seen stepped => exact OR.of_heap Γ hx (hw (by obtain ⟨_, _, _, h, _⟩ := hx; exact h) rfl)
  | loop st pend fn T size ps as bd mk => exact OR.of_heap Γ hx (hw (by obtain ⟨lp, a1, a2, a3, a4, a5, a6, a7, a8, a9, a10, a11⟩ := hx; exact a11) rfl)
  | mark => exact OR.of_heap Γ hx (hw hx.2 rfl)
  | chan cap buf => exact OR.of_heap Γ hx (hw hx.2 rfl)
  | zeros m e => exact OR.of_heap Γ hx (hw hx.2.1 rfl)
  | dead => trivial

theorem OR.lt {w : World} {rb : RB} {x : IObj} (hx : OR Γ ρ w rb x) (hl : live x = true) (hg : rb.ghost = false) : rb.blk < w.heap.size := by
  have key : ∀ o, w.heap[rb.blk]? = some o → rb.blk < w.heap.size := fun o h => (Array.getElem?_eq_some_iff.1 h).1
  cases x with
  | cells c e l ro st => obtain ⟨cs, e', fr, h, _⟩ := hx.2 hg; exact key _ h
  | map es clock => obtain ⟨es', h, _⟩ := hx; exact key _ h
  | strIter s pos => exact key _ hx.1
  | mapIter m since seen stepped => obtain ⟨m', h, _⟩ := hx; exact key _ h
  | loop st pend fn T size ps as bd mk => obtain ⟨lp, h, _⟩ := hx; exact key _ h
  | mark => exact key _ hx.1
  | chan cap buf => obtain ⟨⟨_, _, _, h, -⟩, -⟩ := hx; exact key _ h
  | zeros m e => obtain ⟨⟨te, e', fr, -, h⟩, -⟩ := hx; exact key _ h
  | dead => cases hl

/-- a block more, of which nothing is known -/
theorem Stp.more {s : HS} (inv : Inv Γ ρ s.h w) (o : Obj) : Stp Γ ρ s w ρ s { w with heap := w.heap.push o } := by
  have hpush : ∀ j, j < w.heap.size → ({ w with heap := w.heap.push o } : World).heap[j]? = w.heap[j]? := fun j hj => by
    show (w.heap.push o)[j]? = _
    rw [Array.getElem?_push, if_neg (by omega)]
  exact ⟨Rho.le.refl ρ, fun _ _ h => .inl h, ⟨fun j y rb hj hr => (inv.obj j y rb hj hr).of_heap_g fun hg hl => hpush _ ((inv.obj j y rb hj hr).lt hl hg), inv.apart, inv.lim⟩, rfl, rfl, rfl, by simp, fun _ hb => .inr hb, fun b hb _ => hpush b hb, fun _ hb => .inr hb⟩

theorem live_of_wrt {x : IObj} (h : wrt x = true) : live x = true := by cases x <;> first | rfl | cases h

theorem heap_set {b j : Nat} {o : Obj} {w : World} (hb : b < w.heap.size) : (w.heap.setIfInBounds b o)[j]? = if j = b then some o else w.heap[j]? := by
  rw [Array.getElem?_setIfInBounds]
  by_cases h : b = j
  · subst h; simp [hb]
  · rw [if_neg h, if_neg (Ne.symm h)]

/-- An object that may be written is written. -/
theorem Stp.put {i : Nat} {x x' : IObj} {rb : RB} {o : Obj} (hi : i ≤ 200000) (inv : Inv Γ ρ s.h w) (hx : s.h.get i = some x) (hw : wrt x = true) (hρ : ρ i = some rb) (hg : rb.ghost = false)
    (hh : s'.h = s.h.set i (some x')) (hor : OR Γ ρ { w with heap := w.heap.setIfInBounds rb.blk o } rb x') :
    Stp Γ ρ s w ρ s' { w with heap := w.heap.setIfInBounds rb.blk o } := by
  have hlt := (inv.obj i x rb hx hρ).lt (live_of_wrt hw) hg
  have hget : ∀ j, s'.h.get j = if j = i then some x' else s.h.get j := fun j => by rw [hh]; exact get_set_h _ _ _ _ hi
  have hheap : ∀ j, ({ w with heap := w.heap.setIfInBounds rb.blk o } : World).heap[j]? = if j = rb.blk then some o else w.heap[j]? := fun j => heap_set hlt
  refine ⟨Rho.le.refl ρ, fun _ _ h => .inl h, ⟨fun j y rb' hj hρ' => ?_, fun j k y z rb1 rb2 hjk hj hk hy hz h1 h2 g1 g2 hwz => ?_, inv.lim⟩, rfl, rfl, rfl, by simp, fun b hb => ?_, fun b hb hni => ?_, fun b hb => ?_⟩
  · rw [hget] at hj
    split at hj
    · subst j
      obtain rfl := Option.some.inj hj
      obtain rfl := Option.some.inj (hρ.symm.trans hρ')
      exact hor
    · rename_i hne
      refine (inv.obj j y rb' hj hρ').of_heap_g (fun hg' hl' => ?_)
      rw [hheap, if_neg]
      exact fun e => inv.apart j i y x rb' rb hne hj hx hl' (live_of_wrt hw) hρ' hρ hg' hg (.inr hw) e
  · rw [hget] at hj hk
    by_cases hji : j = i
    · subst hji
      rw [if_pos rfl] at hj
      rw [if_neg (Ne.symm hjk)] at hk
      obtain rfl := Option.some.inj (hρ.symm.trans h1)
      exact inv.apart j k x z rb rb2 hjk hx hk (live_of_wrt hw) hz hρ h2 g1 g2 (.inl hw)
    · rw [if_neg hji] at hj
      by_cases hki : k = i
      · subst hki
        obtain rfl := Option.some.inj (hρ.symm.trans h2)
        exact inv.apart j k y x rb1 rb hjk hj hx hy (live_of_wrt hw) h1 hρ g1 g2 (.inr hw)
      · rw [if_neg hki] at hk
        exact inv.apart j k y z rb1 rb2 hjk hj hk hy hz h1 h2 g1 g2 hwz
  · obtain ⟨j, y, rb', hj, hwy, hρ', hg', rfl⟩ := hb
    rw [hget] at hj
    split at hj
    · subst j
      obtain rfl := Option.some.inj (hρ.symm.trans hρ')
      exact .inr ⟨i, x, rb, hx, hw, hρ, hg, rfl⟩
    · exact .inr ⟨j, y, rb', hj, hwy, hρ', hg', rfl⟩
  · rw [hheap, if_neg]
    exact fun e => hni ⟨i, x, rb, hx, hw, hρ, hg, e.symm⟩
  · obtain ⟨j, y, rb', hj, hwy, hρ', hg', rfl⟩ := hb
    rw [hget] at hj
    split at hj
    · subst j
      obtain rfl := Option.some.inj (hρ.symm.trans hρ')
      exact .inr ⟨i, x, rb, hx, live_of_wrt hw, hρ, hg, rfl⟩
    · exact .inr ⟨j, y, rb', hj, hwy, hρ', hg', rfl⟩

/-- An object is given up. -/
theorem Stp.kill {i : Nat} (hi : i ≤ 200000) (inv : Inv Γ ρ s.h w) (hh : s'.h = s.h.set i (some .dead)) : Stp Γ ρ s w ρ s' w := by
  have hget : ∀ j, s'.h.get j = if j = i then some .dead else s.h.get j := fun j => by rw [hh]; exact get_set_h _ _ _ _ hi
  refine ⟨Rho.le.refl ρ, fun _ _ h => .inl h, ⟨fun j y rb' hj hρ' => ?_, fun j k y z rb1 rb2 hjk hj hk hy hz h1 h2 g1 g2 hwz => ?_, inv.lim⟩, rfl, rfl, rfl, Nat.le_refl _, fun b hb => ?_, fun _ _ _ => rfl, fun b hb => ?_⟩
  · rw [hget] at hj
    split at hj
    · obtain rfl := Option.some.inj hj; trivial
    · exact inv.obj j y rb' hj hρ'
  · rw [hget] at hj hk
    split at hj
    · obtain rfl := Option.some.inj hj; cases hy
    · split at hk
      · obtain rfl := Option.some.inj hk; cases hz
      · exact inv.apart j k y z rb1 rb2 hjk hj hk hy hz h1 h2 g1 g2 hwz
  · obtain ⟨j, y, rb', hj, hwy, hρ', hg', rfl⟩ := hb
    rw [hget] at hj
    split at hj
    · obtain rfl := Option.some.inj hj; cases hwy
    · exact .inr ⟨j, y, rb', hj, hwy, hρ', hg', rfl⟩
  · obtain ⟨j, y, rb', hj, hwy, hρ', hg', rfl⟩ := hb
    rw [hget] at hj
    split at hj
    · obtain rfl := Option.some.inj hj; cases hwy
    · exact .inr ⟨j, y, rb', hj, hwy, hρ', hg', rfl⟩

def Rho.add (ρ : Rho) (i : Nat) (rb : RB) : Rho := ⟨fun j => if j = i then some rb else ρ j, ρ.σ⟩
theorem Rho.add_at (ρ : Rho) (i : Nat) (rb : RB) (j : Nat) : (ρ.add i rb) j = if j = i then some rb else ρ j := rfl
theorem Rho.le_add {ρ : Rho} {i : Nat} {rb : RB} (h : ρ i = none) : Rho.le ρ (ρ.add i rb) := ⟨rfl, fun j r hj => by
  rw [Rho.add_at]; split
  · subst j; rw [h] at hj; cases hj
  · exact hj⟩
theorem Rho.add_self (ρ : Rho) (i : Nat) (rb : RB) : (ρ.add i rb) i = some rb := by rw [Rho.add_at]; simp

theorem lim_add {ρ : Rho} {i : Nat} {rb : RB} (hi : i ≤ 200000) (h : ∀ j r, ρ j = some r → j ≤ 200000) : ∀ j r, (ρ.add i rb) j = some r → j ≤ 200000 := by
  intro j r hj
  rw [Rho.add_at] at hj
  split at hj
  · omega
  · exact h j r hj

/-- A new object in a new block. -/
theorem Stp.new {x : IObj} {rb : RB} {o : Obj} (hn : s.nx ≤ 200000) (inv : Inv Γ ρ s.h w) (hf : ρ s.nx = none) (hb : rb.blk = w.heap.size)
    (hh : s'.h = s.h.set s.nx (some x)) (hnx : s.nx < s'.nx) (hor : OR Γ (ρ.add s.nx rb) { w with heap := w.heap.push o } rb x) :
    Stp Γ ρ s w (ρ.add s.nx rb) s' { w with heap := w.heap.push o } := by
  have hget : ∀ j, s'.h.get j = if j = s.nx then some x else s.h.get j := fun j => by rw [hh]; exact get_set_h _ _ _ _ hn
  have hle := Rho.le_add (rb := rb) hf
  have hpush : ∀ j, j < w.heap.size → ({ w with heap := w.heap.push o } : World).heap[j]? = w.heap[j]? := fun j hj => by
    show (w.heap.push o)[j]? = _
    rw [Array.getElem?_push, if_neg (by omega)]
  have hold : ∀ j rb', j ≠ s.nx → (ρ.add s.nx rb) j = some rb' → ρ j = some rb' := fun j rb' hj h => by rw [Rho.add_at] at h; rwa [if_neg hj] at h
  have hself : ∀ rb', (ρ.add s.nx rb) s.nx = some rb' → rb = rb' := fun rb' h => by rw [Rho.add_self] at h; exact Option.some.inj h
  refine ⟨hle, fun j rb' h => ?_, ⟨fun j y rb' hj hρ' => ?_, fun j k y z rb1 rb2 hjk hj hk hy hz h1 h2 g1 g2 hwz => ?_, lim_add hn inv.lim⟩, rfl, rfl, rfl, by simp, fun b hb' => ?_, fun b hb' _ => hpush b hb', fun b hb' => ?_⟩
  · by_cases hj : j = s.nx
    · exact .inr ⟨by omega, by omega⟩
    · exact .inl (hold j rb' hj h)
  · rw [hget] at hj
    split at hj
    · subst j
      obtain rfl := Option.some.inj hj
      obtain rfl := hself _ hρ'
      exact hor
    · rename_i hne
      have hr := hold j rb' hne hρ'
      exact ((inv.obj j y rb' hj hr).of_heap_g (fun hg' hl' => hpush _ ((inv.obj j y rb' hj hr).lt hl' hg'))).mono Γ hle
  · rw [hget] at hj hk
    by_cases hji : j = s.nx
    · subst hji
      rw [if_neg (Ne.symm hjk)] at hk
      have hr := hold k rb2 (Ne.symm hjk) h2
      have := (inv.obj k z rb2 hk hr).lt hz g2
      obtain rfl := hself _ h1
      omega
    · rw [if_neg hji] at hj
      have hr1 := hold j rb1 hji h1
      by_cases hki : k = s.nx
      · subst hki
        have := (inv.obj j y rb1 hj hr1).lt hy g1
        obtain rfl := hself _ h2
        omega
      · rw [if_neg hki] at hk
        exact inv.apart j k y z rb1 rb2 hjk hj hk hy hz hr1 (hold k rb2 hki h2) g1 g2 hwz
  · obtain ⟨j, y, rb', hj, hwy, hρ', hg', rfl⟩ := hb'
    rw [hget] at hj
    split at hj
    · subst j
      obtain rfl := hself _ hρ'
      exact .inl (by omega)
    · rename_i hne
      exact .inr ⟨j, y, rb', hj, hwy, hold j rb' hne hρ', hg', rfl⟩
  · obtain ⟨j, y, rb', hj, hwy, hρ', hg', rfl⟩ := hb'
    rw [hget] at hj
    split at hj
    · subst j
      obtain rfl := hself _ hρ'
      exact .inl (by omega)
    · rename_i hne
      exact .inr ⟨j, y, rb', hj, hwy, hold j rb' hne hρ', hg', rfl⟩

/-- A new object of which nothing is said. -/
theorem Stp.ghost {e : TypeId} {rb : RB} (hn : s.nx ≤ 200000) (inv : Inv Γ ρ s.h w) (hf : ρ s.nx = none) (hg : rb.ghost = true)
    (hh : s'.h = s.h.set s.nx (some (.cells [] e true true false))) (hnx : s.nx < s'.nx) : Stp Γ ρ s w (ρ.add s.nx rb) s' w := by
  have hget : ∀ j, s'.h.get j = if j = s.nx then some (.cells [] e true true false) else s.h.get j := fun j => by rw [hh]; exact get_set_h _ _ _ _ hn
  have hle := Rho.le_add (rb := rb) hf
  have hold : ∀ j rb', j ≠ s.nx → (ρ.add s.nx rb) j = some rb' → ρ j = some rb' := fun j rb' hj h => by rw [Rho.add_at] at h; rwa [if_neg hj] at h
  have hself : ∀ rb', (ρ.add s.nx rb) s.nx = some rb' → rb = rb' := fun rb' h => by rw [Rho.add_self] at h; exact Option.some.inj h
  refine ⟨hle, fun j rb' h => ?_, ⟨fun j y rb' hj hρ' => ?_, fun j k y z rb1 rb2 hjk hj hk hy hz h1 h2 g1 g2 hwz => ?_, lim_add hn inv.lim⟩, rfl, rfl, rfl, Nat.le_refl _, fun b hb' => ?_, fun _ _ _ => rfl, fun b hb' => ?_⟩
  · by_cases hj : j = s.nx
    · exact .inr ⟨by omega, by omega⟩
    · exact .inl (hold j rb' hj h)
  · rw [hget] at hj
    split at hj
    · subst j
      obtain rfl := Option.some.inj hj
      obtain rfl := hself _ hρ'
      exact ⟨fun _ => ⟨rfl, rfl, rfl⟩, fun h => by rw [hg] at h; cases h⟩
    · rename_i hne
      exact (inv.obj j y rb' hj (hold j rb' hne hρ')).mono Γ hle
  · rw [hget] at hj hk
    by_cases hji : j = s.nx
    · subst hji; obtain rfl := hself _ h1; rw [hg] at g1; cases g1
    · rw [if_neg hji] at hj
      by_cases hki : k = s.nx
      · subst hki; obtain rfl := hself _ h2; rw [hg] at g2; cases g2
      · rw [if_neg hki] at hk
        exact inv.apart j k y z rb1 rb2 hjk hj hk hy hz (hold j rb1 hji h1) (hold k rb2 hki h2) g1 g2 hwz
  · obtain ⟨j, y, rb', hj, hwy, hρ', hg', rfl⟩ := hb'
    rw [hget] at hj
    split at hj
    · subst j; obtain rfl := hself _ hρ'; rw [hg] at hg'; cases hg'
    · rename_i hne
      exact .inr ⟨j, y, rb', hj, hwy, hold j rb' hne hρ', hg', rfl⟩
  · obtain ⟨j, y, rb', hj, hwy, hρ', hg', rfl⟩ := hb'
    rw [hget] at hj
    split at hj
    · subst j; obtain rfl := hself _ hρ'; rw [hg] at hg'; cases hg'
    · rename_i hne
      exact .inr ⟨j, y, rb', hj, hwy, hold j rb' hne hρ', hg', rfl⟩

/-- A row of cells is given up, and another one takes its block over. -/
theorem Stp.take {i : Nat} {x x' : IObj} {rb rb' : RB} {o : Obj} (hi : i ≤ 200000) (hn : s.nx ≤ 200000) (inv : Inv Γ ρ s.h w) (hx : s.h.get i = some x) (hw : wrt x = true) (hρ : ρ i = some rb) (hg : rb.ghost = false)
    (hf : ρ s.nx = none) (hb : rb'.blk = rb.blk) (hh : s'.h = (s.h.set i (some .dead)).set s.nx (some x')) (hnx : s.nx < s'.nx)
    (hor : OR Γ (ρ.add s.nx rb') { w with heap := w.heap.setIfInBounds rb.blk o } rb' x') :
    Stp Γ ρ s w (ρ.add s.nx rb') s' { w with heap := w.heap.setIfInBounds rb.blk o } := by
  have hlt := (inv.obj i x rb hx hρ).lt (live_of_wrt hw) hg
  have hget : ∀ j, s'.h.get j = if j = s.nx then some x' else if j = i then some .dead else s.h.get j := fun j => by
    rw [hh, get_set_h _ _ _ _ hn, get_set_h _ _ _ _ hi]
  have hheap : ∀ j, ({ w with heap := w.heap.setIfInBounds rb.blk o } : World).heap[j]? = if j = rb.blk then some o else w.heap[j]? := fun j => heap_set hlt
  have hle := Rho.le_add (rb := rb') hf
  have hold : ∀ j r, j ≠ s.nx → (ρ.add s.nx rb') j = some r → ρ j = some r := fun j r hj h => by rw [Rho.add_at] at h; rwa [if_neg hj] at h
  have hself : ∀ r, (ρ.add s.nx rb') s.nx = some r → rb' = r := fun r h => by rw [Rho.add_self] at h; exact Option.some.inj h
  have far : ∀ j y r, j ≠ i → s.h.get j = some y → live y = true → ρ j = some r → r.ghost = false → r.blk ≠ rb.blk := fun j y r hj hy hl hr hg' =>
    inv.apart j i y x r rb hj hy hx hl (live_of_wrt hw) hr hρ hg' hg (.inr hw)
  refine ⟨hle, fun j r h => ?_, ⟨fun j y r hj hr => ?_, fun j k y z rb1 rb2 hjk hj hk hy hz h1 h2 g1 g2 hwz => ?_, lim_add hn inv.lim⟩, rfl, rfl, rfl, by simp, fun b hb' => ?_, fun b hb' hni => ?_, fun b hb' => ?_⟩
  · by_cases hj : j = s.nx
    · exact .inr ⟨by omega, by omega⟩
    · exact .inl (hold j r hj h)
  · rw [hget] at hj
    split at hj
    · subst j
      obtain rfl := Option.some.inj hj
      obtain rfl := hself _ hr
      exact hor
    · rename_i hjn
      split at hj
      · obtain rfl := Option.some.inj hj; trivial
      · rename_i hji
        have hr' := hold j r hjn hr
        exact ((inv.obj j y r hj hr').of_heap_g (fun hg' hl' => by rw [hheap, if_neg (far j y r hji hj hl' hr' hg')])).mono Γ hle
  · rw [hget] at hj hk
    by_cases hjn : j = s.nx
    · subst hjn
      rw [if_neg (Ne.symm hjk)] at hk
      split at hk
      · obtain rfl := Option.some.inj hk; cases hz
      · rename_i hki
        obtain rfl := hself _ h1
        rw [hb]; exact fun e => far k z rb2 hki hk hz (hold k rb2 (Ne.symm hjk) h2) g2 e.symm
    · rw [if_neg hjn] at hj
      split at hj
      · obtain rfl := Option.some.inj hj; cases hy
      · rename_i hji
        by_cases hkn : k = s.nx
        · subst hkn
          obtain rfl := hself _ h2
          rw [hb]; exact far j y rb1 hji hj hy (hold j rb1 hjn h1) g1
        · rw [if_neg hkn] at hk
          split at hk
          · obtain rfl := Option.some.inj hk; cases hz
          · exact inv.apart j k y z rb1 rb2 hjk hj hk hy hz (hold j rb1 hjn h1) (hold k rb2 hkn h2) g1 g2 hwz
  · obtain ⟨j, y, r, hj, hwy, hr, hg', rfl⟩ := hb'
    rw [hget] at hj
    split at hj
    · subst j
      obtain rfl := hself _ hr
      exact .inr ⟨i, x, rb, hx, hw, hρ, hg, hb.symm⟩
    · rename_i hjn
      split at hj
      · obtain rfl := Option.some.inj hj; cases hwy
      · exact .inr ⟨j, y, r, hj, hwy, hold j r hjn hr, hg', rfl⟩
  · rw [hheap, if_neg]
    exact fun e => hni ⟨i, x, rb, hx, hw, hρ, hg, e.symm⟩
  · obtain ⟨j, y, r, hj, hwy, hr, hg', rfl⟩ := hb'
    rw [hget] at hj
    split at hj
    · subst j
      obtain rfl := hself _ hr
      exact .inr ⟨i, x, rb, hx, live_of_wrt hw, hρ, hg, hb.symm⟩
    · rename_i hjn
      split at hj
      · obtain rfl := Option.some.inj hj; cases hwy
      · exact .inr ⟨j, y, r, hj, hwy, hold j r hjn hr, hg', rfl⟩

end objects
end Go.Ideal

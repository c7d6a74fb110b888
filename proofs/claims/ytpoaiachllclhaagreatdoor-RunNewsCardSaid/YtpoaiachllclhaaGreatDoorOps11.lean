/-
  What an operation does in the ideal heap, it does in the world: conversions, new blocks. Conditions: none.
-/
import Derived.Test.YtpoaiachllclhaaGreatDoorOps10
import Derived.Laws.BytesString
import Derived.Laws.IdiomStrings
namespace Go.Ideal
open Go

section ops
variable {P : Program} {Γ : Cx} {ρ : Rho} {s s' : HS} {w : World}

theorem bytesOf_ok : ∀ {l : List Value} {bs : List UInt8}, bytesOf l = some bs → ∃ ns : List Int, l = ns.map (Value.int .u8) ∧ bs = ns.map fun n => UInt8.ofNat n.toNat := by
  intro l
  induction l with
  | nil => intro bs h; obtain rfl := Option.some.inj h; exact ⟨[], rfl, rfl⟩
  | cons v l ih =>
    intro bs h
    unfold bytesOf at h
    split at h
    · rename_i e; cases e
    · rename_i n l' e
      obtain ⟨rfl, rfl⟩ := List.cons.inj e
      simp only [Opt.go_eq] at h
      obtain ⟨r, hr, h⟩ := h
      obtain rfl := Option.some.inj h
      obtain ⟨ns, rfl, rfl⟩ := ih hr
      exact ⟨n :: ns, rfl, rfl⟩
    · cases h

theorem push_bytes : ∀ (ns : List Int) (r : ByteArray), ns.foldl (fun r n => r.push (UInt8.ofNat n.toNat)) r = ⟨r.data ++ (ns.map fun n => UInt8.ofNat n.toNat).toArray⟩
  | [], r => by simp
  | n :: l, r => by
    simp only [List.foldl_cons, List.map_cons]
    rw [push_bytes l]
    simp [ByteArray.push]

theorem VRs.ints {k : IntKind} {ns : List Int} {l' : List Value} (h : VRs ρ (ns.map (Value.int k)) l') : l' = ns.map (Value.int k) := by
  apply List.ext_getElem?
  intro j
  rcases hj : (ns.map (Value.int k))[j]? with _ | v
  · rw [List.getElem?_eq_none_iff] at hj ⊢; rw [← h.1]; exact hj
  · obtain ⟨v', a, b⟩ := h.get hj
    rw [List.getElem?_map] at hj
    cases hn : ns[j]? with
    | none => rw [hn] at hj; cases hj
    | some n =>
      rw [hn] at hj
      obtain rfl := Option.some.inj hj
      cases b; rw [a]

theorem toStr_ok (C : CxOk P Γ) {ts td e : TypeId} {tis tid : TI} {x x' v : Value} (h : toStr Γ e x s = some (v, s')) (hs : Γ.ty ts = some tis) (hsu : tis.u = .slice e) (hd : Γ.ty td = some tid) (hdu : tid.u = .string)
    (pre : Pre Γ ρ s w s') (hx : VR ρ x x') : DoesV P Γ ρ s w (convert ts td x') v s' := by
  simp only [toStr, have_eq] at h
  obtain ⟨te, hte, h⟩ := h
  obtain ⟨hus, -, -, -, -⟩ := ty_run C hs
  obtain ⟨hud, -, -, -, -⟩ := ty_run C hd
  obtain ⟨hue, -, -, -, -⟩ := ty_run C hte
  rw [hsu] at hus; rw [hdu] at hud
  have go : ∀ b n c, x' = .slice b n c → te.u = .int .u8 → ∀ w, (convert ts td x').run P w = (Conv.bytesToString x').run P w := by
    intro b n c hx' htu w
    subst hx'
    rw [htu] at hue
    simp only [convert, Sem.run_bind, hus, hud, Result.andThen_ok, hue]
  cases htu : te.u <;> rw [htu] at h <;> (try dsimp only at h) <;> try (simp [EM.fail] at h; done)
  rename_i k
  cases k <;> (try dsimp only at h) <;> try (simp [EM.fail] at h; done)
  split at h
  · simp only [pure_eq, Prod.mk.injEq] at h
    obtain ⟨rfl, rfl⟩ := h
    cases hx
    exact .of_run pre rfl (by rw [go _ _ _ rfl htu]; rfl) (.str _)
  · rename_i a len c
    simp only [bind_eq, have_eq, pure_eq, Prod.mk.injEq] at h
    obtain ⟨cs, s1, h1, bs, hbs, rfl, rfl⟩ := h
    obtain ⟨ns, rfl, rfl⟩ := bytesOf_ok hbs
    have hem : ByteArray.empty.data = #[] := rfl
    cases hx with
    | sl b o n' c0 c' rb p1 p2 p3 =>
      obtain ⟨l', a1, a2, a3, a4, a5⟩ := readCells_ok (P := P) h1 pre.inv p1 p2
      obtain rfl := a2.ints
      refine .of_run pre a4 ?_ (.str _)
      rw [go _ _ _ rfl htu, run_bytesToString w _ _ _ ns a1, push_bytes, hem]
      simp
    | slg b o c' a' rb p1 p2 =>
      simp only [readCells, need_eq] at h1
      obtain ⟨-, h1⟩ := h1
      obtain ⟨y, c0, g1, g2, g3, g4, g5⟩ := hread_spec h1
      obtain ⟨t1, -, -⟩ := (takeAt_iff _ _ _ _).1 g3
      have hns : ns = [] := by
        cases ns with
        | nil => rfl
        | cons n ns => simp at t1
      subst hns
      refine .of_run pre g4 ?_ (.str _)
      rw [go _ _ _ rfl htu, run_bytesToString w a' 0 c' [] (by simp [loadCells, loadCellsFrom])]
      rfl
  · simp [EM.fail] at h

theorem freeze_last (w : World) (arr : Array Value) (e : TypeId) (n : Nat) : ({ w with heap := w.heap.push (.cells arr e) } : World).freeze ⟨w.heap.size, n, none⟩ 1 = { w with heap := w.heap.push (.cells arr e (n, n + 1)) } := by
  unfold World.freeze
  rw [if_neg (by omega)]
  simp only [World.mk.injEq, and_true]
  apply Array.ext_getElem?
  intro j
  rw [Array.getElem?_modify, Array.getElem?_push, Array.getElem?_push]
  by_cases hj : w.heap.size = j
  · subst hj; simp
  · rw [if_neg hj, if_neg (Ne.symm hj), if_neg (Ne.symm hj)]

theorem toBytes_ok (C : CxOk P Γ) {ts td e : TypeId} {tis tid : TI} {z : ByteArray} {v : Value} (h : toBytes Γ e z s = some (v, s')) (hs : Γ.ty ts = some tis) (hd : Γ.ty td = some tid) (hdu : tid.u = .slice e)
    (pre : Pre Γ ρ s w s') : DoesV P Γ ρ s w (convert ts td (.string z)) v s' := by
  simp only [toBytes, have_eq] at h
  obtain ⟨te, hte, h⟩ := h
  obtain ⟨hus, -, -, -, -⟩ := ty_run C hs
  obtain ⟨hud, -, -, -, -⟩ := ty_run C hd
  obtain ⟨hue, -, -, -, -⟩ := ty_run C hte
  rw [hdu] at hud
  cases htu : te.u <;> rw [htu] at h hue <;> (try dsimp only at h) <;> try (simp [EM.fail] at h; done)
  rename_i k
  cases k <;> (try dsimp only at h) <;> try (simp [EM.fail] at h; done)
  simp only [need_eq, bind_eq, pure_eq, Prod.mk.injEq] at h
  obtain ⟨hsz, a, s1, h1, rfl, rfl⟩ := h
  have hsz := Nat.eq_of_beq_eq_true hsz
  -- the capacity
  obtain ⟨cap, hcap, hch⟩ : ∃ cap, z.size ≤ cap ∧ (choose (.appendCap z.size 0 e)).run P w = .ok cap { w with drawn := w.drawn + 1 } := by
    have hq : (Question.appendCap z.size 0 e).forced = false := rfl
    refine ⟨(Question.appendCap z.size 0 e).cut (w.tape w.drawn (.appendCap z.size 0 e)), by simp [Question.cut], ?_⟩
    simp only [run_choose, hq]
    rfl
  have hrun : (convert ts td (.string z)).run P w = .ok (.slice (some ⟨w.heap.size, 0, none⟩) z.size cap)
      { w with drawn := w.drawn + 1, heap := w.heap.push (.cells ((z.data.map fun b => Value.int .u8 b.toNat) ++ Array.replicate (cap - z.size) (.int .u8 0)) e (cap, cap + 1)) } := by
    have hn : ((z.data.map fun b => Value.int .u8 b.toNat) ++ Array.replicate (cap - z.size) (Value.int .u8 0)).size = cap := by
      simp only [Array.size_append, Array.size_map, Array.size_replicate]
      have : z.data.size = z.size := rfl
      omega
    have hconv : (convert ts td (.string z)).run P w = (Conv.stringToBytes e z).run P w := by
      simp only [convert, Sem.run_bind, hus, hud, Result.andThen_ok, hue]
    rw [hconv]
    simp only [Conv.stringToBytes, Sem.run_bind, hch, Result.andThen_ok, newRow, run_newObj, Sem.run_pure, markStringish, run_shape]
    have hshape : ({ w with drawn := w.drawn + 1, heap := w.heap.push (.cells ((z.data.map fun b => Value.int .u8 b.toNat) ++ Array.replicate (cap - z.size) (.int .u8 0)) e) } : World).shape? w.heap.size = some (e, cap) := by
      unfold World.shape?
      simp only [Array.getElem?_push_size]
      rw [hn]
    rw [hshape]
    simp only [run_freeze, Result.andThen_ok]
    exact congrArg _ (freeze_last { w with drawn := w.drawn + 1 } _ _ _)
  have hlen : (byteCells z).length = z.size := by simp [byteCells]
  have hvr : VRs ρ (byteCells z) (byteCells z) := VRs.refl_of fun v hv => by
    simp only [byteCells, List.mem_map] at hv
    obtain ⟨b, -, rfl⟩ := hv
    exact .int _ _
  have harrsz : ((z.data.map fun b => Value.int .u8 b.toNat) ++ Array.replicate (cap - z.size) (Value.int .u8 0)).size = cap := by
    simp only [Array.size_append, Array.size_map, Array.size_replicate]
    have : z.data.size = z.size := rfl
    omega
  have stD : Stp Γ ρ s w ρ s { w with drawn := w.drawn + 1 } := Stp.drew pre.inv _
  have preN : Pre Γ ρ s { w with drawn := w.drawn + 1 } s' := ⟨stD.inv, pre.free, pre.fix.step stD⟩
  obtain ⟨ha, hn', stN⟩ := newCells_ok (arr := (z.data.map fun b => Value.int .u8 b.toNat) ++ Array.replicate (cap - z.size) (.int .u8 0)) (c' := byteCells z) (esz := te.size) (fr := (cap, cap + 1)) h1 preN rfl hvr (fun j v hj => by
      have hjl : j < (byteCells z).length := (List.getElem?_eq_some_iff.1 hj).1
      rw [Array.getElem?_append_left (by simp; rw [hlen] at hjl; exact hjl), ← Array.getElem?_toList]
      simpa [byteCells] using hj)
    (by rw [harrsz, hlen]; exact hcap) (fun h => by cases h) (fun _ => ⟨te, hte, rfl, by omega⟩) (fun k hk => by rw [harrsz] at hk; simp only; omega) (fun h => by cases h)
  refine ⟨_, _, _, hrun, ?_, stD.trans stN (Nat.le_refl _) (by omega)⟩
  rw [ha]
  have := VR.sl (ρ := ρ.add s.nx ⟨w.heap.size, 0, (byteCells z).length, ((z.data.map fun b => Value.int .u8 b.toNat) ++ Array.replicate (cap - z.size) (Value.int .u8 0)).size, te.size, true, false⟩) s.nx 0 z.size z.size cap _ (Rho.add_self _ _ _) rfl
    (.inr ⟨rfl, hcap, by simp only [hlen, hsz]; omega, by simp only [harrsz, hsz]; omega⟩)
  simpa using this

theorem convertV_ok (C : CxOk P Γ) {ts td : TypeId} {x x' v : Value} (h : convertV Γ ts td x s = some (v, s')) (pre : Pre Γ ρ s w s') (hx : VR ρ x x') : DoesV P Γ ρ s w (convert ts td x') v s' := by
  simp only [convertV, have_eq] at h
  obtain ⟨tis, his, tid, hid, h⟩ := h
  obtain ⟨hus, -, -, -, -⟩ := ty_run C his
  obtain ⟨hud, -, -, -, -⟩ := ty_run C hid
  split at h
  · rename_i k n
    cases hx
    cases hdu : tid.u <;> rw [hdu] at h hud <;> dsimp only at h <;> try (simp [EM.fail] at h; done)
    · simp only [pure_eq, Prod.mk.injEq] at h
      obtain ⟨rfl, rfl⟩ := h
      refine .of_run pre rfl ?_ (by rw [intV_eq]; exact .int _ _)
      simp only [convert, Sem.run_bind, hus, hud, Result.andThen_ok]
      generalize tis.u = us
      cases us <;> rfl
    · simp only [pure_eq, Prod.mk.injEq] at h
      obtain ⟨rfl, rfl⟩ := h
      refine .of_run pre rfl ?_ (.str _)
      simp only [convert, Sem.run_bind, hus, hud, Result.andThen_ok]
      generalize tis.u = us
      cases us <;> rfl
  · rename_i z
    cases hx
    cases hdu : tid.u <;> rw [hdu] at h <;> dsimp only at h <;> try (simp [EM.fail] at h; done)
    · rw [hdu] at hud
      cases hsu : tis.u <;> rw [hsu] at h hus <;> dsimp only at h <;> try (simp [EM.fail] at h; done)
      simp only [pure_eq, Prod.mk.injEq] at h
      obtain ⟨rfl, rfl⟩ := h
      refine .of_run pre rfl ?_ (.str _)
      simp only [convert, Sem.run_bind, hus, hud, Result.andThen_ok]
      rfl
    · exact toBytes_ok C h his hid hdu pre
  · rename_i lo hi
    cases hx with
    | sym8 lo hi z g1 g2 g3 =>
      cases hdu : tid.u <;> rw [hdu] at h hud <;> (try dsimp only at h) <;> try (simp [EM.fail] at h; done)
      rename_i kk
      cases kk <;> (try dsimp only at h) <;> try (simp [EM.fail] at h; done)
      simp only [force_eq, pure_eq, Prod.mk.injEq] at h
      obtain ⟨rfl, rfl⟩ := h
      have hw : IntKind.i64.wrap z = z := by simp [IntKind.wrap, IntKind.bits, IntKind.signed]; omega
      refine .of_run pre rfl (v' := .int .i64 z) ?_ (.sym _ _ _ ?_ ?_ ?_)
      · simp only [convert, Sem.run_bind, hus, hud, Result.andThen_ok]
        have hr : (Conv.intToInt .i64 z).run P w = .ok (.int .i64 (IntKind.i64.wrap z)) w := rfl
        rw [hw] at hr
        generalize tis.u = us
        cases us <;> exact hr
      · show ((lo + 9223372036854775808 : Nat) : Int) ≤ _
        omega
      · show _ ≤ ((hi + 9223372036854775808 : Nat) : Int)
        omega
      · show hi + 9223372036854775808 < _
        omega
  · rename_i a n c
    cases hdu : tid.u <;> rw [hdu] at h <;> dsimp only at h <;> try (simp [EM.fail] at h; done)
    cases hsu : tis.u <;> rw [hsu] at h <;> dsimp only at h <;> try (simp [EM.fail] at h; done)
    exact toStr_ok C h his hsu hid hdu pre hx
  · simp [EM.fail] at h

/-! ### New blocks -/
/-- a block whose cells are known -/
theorem newTight {e e' : TypeId} {c : List Value} {a : Addr} {arr : Array Value} (h : newCells e c false false s = some (a, s')) (pre : Pre Γ ρ s w s') (hc : VRs ρ c arr.toList) :
    ∃ ρ', a = ⟨s.nx, 0, none⟩ ∧ (newRow e' arr).run P w = .ok ⟨w.heap.size, 0, none⟩ { w with heap := w.heap.push (.cells arr e') } ∧
      ρ' s.nx = some ⟨w.heap.size, 0, c.length, arr.size, 0, false, false⟩ ∧ Stp Γ ρ s w ρ' s' { w with heap := w.heap.push (.cells arr e') } := by
  have hsz : arr.size = c.length := by have := hc.1; simpa using this.symm
  obtain ⟨ha, hn, st⟩ := newCells_ok (arr := arr) (e' := e') (fr := (0, 0)) (c' := arr.toList) (esz := 0) h pre rfl hc (fun j v hj => by rw [← Array.getElem?_toList]; exact hj) (by omega) (fun _ => hsz) (fun h => by cases h) (fun k _ => by simp) (fun _ k => by simp)
  exact ⟨_, ha, by simp only [newRow, Sem.run_bind, run_newObj, Result.andThen_ok, Sem.run_pure], Rho.add_self _ _ _, st⟩

theorem VR.ptrAt {i n k esz : Nat} {blk : Nat} {l : Bool} (h : ρ i = some ⟨blk, 0, n, k, esz, l, false⟩) : VR ρ (.pointer (some ⟨i, 0, none⟩)) (.pointer (some ⟨blk, 0, none⟩)) := by
  have := VR.ptr (ρ := ρ) i 0 _ h rfl
  simpa using this
theorem VR.slAt {i n k esz : Nat} {blk a c : Nat} {l : Bool} (h : ρ i = some ⟨blk, 0, n, k, esz, l, false⟩) : VR ρ (.slice (some ⟨i, 0, none⟩) a c) (.slice (some ⟨blk, 0, none⟩) a c) := by
  have := VR.sl (ρ := ρ) i 0 a c c _ h rfl (.inl rfl)
  simpa using this

theorem allocV_ok (C : CxOk P Γ) {t : TypeId} {ti : TI} {a : Addr} {old : Value} (ht : Γ.ty t = some ti) (h : newCells t ti.zero false false s = some (a, s')) (pre : Pre Γ ρ s w s') : DoesV P Γ ρ s w (Instr.alloc t true old) (.pointer (some a)) s' := by
  obtain ⟨-, -, -, -, z, hz, hzc, hzo⟩ := ty_run C ht
  obtain ⟨hzv, -, -, hzcells⟩ := zero_VRs (ρ := ρ) hzo hzc
  obtain ⟨ρ', rfl, h1, h2, h3⟩ := newTight (P := P) (e' := t) (arr := z.cells) h pre (by rw [hzcells]; simpa using hzv)
  refine ⟨_, _, ρ', ?_, VR.ptrAt h2, h3⟩
  simp only [Instr.alloc, Sem.run_bind, hz, Result.andThen_ok, newVar, h1, Sem.run_pure]

theorem boxV_ok {t : TypeId} {a : Addr} {x x' : Value} (h : newCells t (cellsOf x) false false s = some (a, s')) (pre : Pre Γ ρ s w s') (hx : VR ρ x x') : DoesV P Γ ρ s w (Instr.box t x') (.pointer (some a)) s' := by
  obtain ⟨ρ', rfl, h1, h2, h3⟩ := newTight (P := P) (e' := t) (arr := x'.cells) h pre hx.cells
  refine ⟨_, _, ρ', ?_, VR.ptrAt h2, h3⟩
  simp only [Instr.box, newVar, Sem.run_bind, h1, Result.andThen_ok, Sem.run_pure]

theorem repCells_len (l : List Value) (n : Nat) : (repCells l n).length = n * l.length := by
  induction n with
  | zero => simp [repCells]
  | succ n ih => simp only [repCells, List.length_append, ih, Nat.succ_mul]; omega

theorem range_zero {z : Value} {l : List Value} {n size : Nat} (hz : z.cells = l.toArray) (hl : l.length = size) :
    ((Array.range (n * size)).map ((if n * size = 0 then (#[] : Array Value) else z.cells)[· % (if n * size = 0 then (#[] : Array Value) else z.cells).size]!)).toList = repCells l n := by
  by_cases h : n * size = 0
  · rw [if_pos h, h]
    have : (repCells l n).length = 0 := by rw [repCells_len, hl, h]
    rw [List.eq_nil_of_length_eq_zero this]; simp
  · rw [if_neg h]
    have := zeroCells_list z.cells n l hz
    rw [← this]
    have hsz : z.cells.size = size := by rw [hz]; simpa using hl
    simp only [Builtin.zeroCells, hsz]

theorem buildSliceV_ok (C : CxOk P Γ) {t : TypeId} {len : Nat} {l : List (Nat × Value)} {ps : Array (Nat × Value)} {v : Value} (h : buildSliceV Γ t len l s = some (v, s')) (pre : Pre Γ ρ s w s') (hp : PR ρ l ps.toList) :
    DoesV P Γ ρ s w (Instr.buildSlice t len ps) v s' := by
  simp only [buildSliceV, have_eq, need_eq, bind_eq, pure_eq, Prod.mk.injEq] at h
  obtain ⟨ti, hti, elem, hel, te, hte, hb, cs, hcs, a, s1, h1, rfl, rfl⟩ := h
  have hu0 := elemTy_eq hel
  obtain ⟨hu, -, -, -, -⟩ := ty_run C hti
  rw [hu0] at hu
  obtain ⟨-, hse, -, -, z, hz, hzc, hzo⟩ := ty_run C hte
  obtain ⟨hzv, hzl, -, hzcells⟩ := zero_VRs (ρ := ρ) hzo hzc
  have hle : len * te.size ≤ 1000000 := Nat.le_of_ble_eq_true hb
  have hr := range_zero (n := len) hzcells hzl
  obtain ⟨arr1, f1, f2⟩ := lay_ok (ρ := ρ) (place' := fun i => some (i * te.size, te.size)) (fun i x hx => hx) l ps.toList _ _ _ hcs hp (by rw [hr]; exact repCells_VRs hzv len)
  obtain ⟨ρ', rfl, g1, g2, g3⟩ := newTight (P := P) (e' := elem) (arr := arr1) h1 pre f2
  refine ⟨_, _, ρ', ?_, VR.slAt g2, g3⟩
  by_cases hzero : len * te.size = 0
  · simp only [hzero, if_true] at f1
    simp only [Instr.buildSlice, Sem.run_bind, hu, hse, Result.andThen_ok, hzero, if_true]
    rw [if_neg (by omega)]
    simp only [Sem.run_bind, Sem.run_pure, Result.andThen_ok]
    rw [f1]
    simp only [Sem.run_bind, g1, Result.andThen_ok, Sem.run_pure]
  · simp only [hzero, if_false] at f1
    simp only [Instr.buildSlice, Sem.run_bind, hu, hse, Result.andThen_ok, hzero, if_false]
    rw [if_neg (by omega)]
    simp only [Sem.run_bind, Sem.run_pure, Result.andThen_ok, hz]
    rw [f1]
    simp only [Sem.run_bind, g1, Result.andThen_ok, Sem.run_pure]

theorem makeSliceV_ok (C : CxOk P Γ) {t : TypeId} {n m : Nat} {k k' : IntKind} {v : Value} (h : makeSliceV Γ t n m s = some (v, s')) (pre : Pre Γ ρ s w s') : DoesV P Γ ρ s w (Instr.makeSlice t (.int k n) (.int k' m)) v s' := by
  simp only [makeSliceV, have_eq, need_eq, Bool.and_eq_true, Bool.not_eq_true'] at h
  obtain ⟨ti, hti, elem, hel, te, hte, ⟨hnm, hlim⟩, h⟩ := h
  have hu0 := elemTy_eq hel
  obtain ⟨hu, -, -, -, -⟩ := ty_run C hti
  rw [hu0] at hu
  obtain ⟨-, hse, -, ⟨ie, hie, hby, hsz⟩, z, hz, hzc, hzo⟩ := ty_run C hte
  obtain ⟨hzv, hzl, -, hzcells⟩ := zero_VRs (ρ := ρ) hzo hzc
  have hinfo : ∀ w, (typeInfo elem).run P w = .ok ie w := fun w => by simp [typeInfo, hie]
  have hnm := Nat.le_of_ble_eq_true hnm
  have hlim : m * (te.bytes + 1) < 100000000 := ble_false hlim
  have hm : m < 100000000 := by
    have : m * 1 ≤ m * (te.bytes + 1) := Nat.mul_le_mul_left _ (by omega)
    omega
  have hmb : te.bytes * m < 100000000 := by
    have : m * (te.bytes + 1) = te.bytes * m + m := by rw [Nat.mul_add, Nat.mul_comm]; omega
    omega
  have w1 : IntKind.i64.wrap (n : Int) = n := by simp [IntKind.wrap, IntKind.bits, IntKind.signed]; omega
  have w2 : IntKind.i64.wrap (m : Int) = m := by simp [IntKind.wrap, IntKind.bits, IntKind.signed]; omega
  have hr := range_zero (n := m) hzcells hzl
  have c1 : ¬ ((m : Int) < 0) := by omega
  have c2 : ¬ ((te.bytes : Int) * (m : Int) > 2 ^ 48) := by
    have h0 : ((te.bytes * m : Nat) : Int) < ((100000000 : Nat) : Int) := Int.ofNat_lt.2 hmb
    rw [Int.natCast_mul] at h0
    omega
  have c3 : ¬ ((n : Int) < 0) := by omega
  have c4 : ¬ ((n : Int) > (m : Int)) := by omega
  cases hbig : Nat.ble 4000 (m * te.size) with
  | true =>
    have hb2 := Nat.le_of_ble_eq_true hbig
    have hbig : Nat.ble 4000 (Nat.mul m te.size) = true := hbig
    rw [hbig, cond_true] at h
    simp only [bind_eq, pure_eq, Prod.mk.injEq] at h
    obtain ⟨i, s1, h1, rfl, rfl⟩ := h
    obtain ⟨rfl, l1, l2, l3⟩ := hnew_spec h1
    have hzero : ¬ (m * te.size = 0) := by omega
    have hrl : Array.map (fun x => (if m * te.size = 0 then (#[] : Array Value) else z.cells)[x % (if m * te.size = 0 then (#[] : Array Value) else z.cells).size]!) (Array.range (m * te.size)) = (repCells te.zero m).toArray := by
      apply Array.toList_inj.1
      rw [hr]
    have st := Stp.new (Γ := Γ) (x := .zeros m elem) (rb := ⟨w.heap.size, 0, 0, 0, 0, false, false⟩) (o := .cells (repCells te.zero m).toArray elem) (by omega) pre.inv (pre.free _ (Nat.le_refl _) (by omega)) rfl l2 (by omega)
      ⟨⟨te, elem, _, hte, by show (w.heap.push _)[w.heap.size]? = _; simp; rfl⟩, rfl, rfl, rfl⟩
    have g1 : (newRow elem (repCells te.zero m).toArray).run P w = .ok ⟨w.heap.size, 0, none⟩ { w with heap := w.heap.push (.cells (repCells te.zero m).toArray elem) } := by
      simp only [newRow, Sem.run_bind, run_newObj, Result.andThen_ok, Sem.run_pure]
    refine ⟨_, _, _, ?_, VR.slAt (Rho.add_self _ _ _), st⟩
    simp only [hzero, if_false] at hrl
    simp only [Instr.makeSlice, Sem.run_bind, hu, Result.andThen_ok, asInt, asIntOf, Sem.run_pure, hinfo, hby, w1, w2, decide_eq_false c1, decide_eq_false c2, decide_eq_false c3, decide_eq_false c4, Bool.or_false, Bool.false_eq_true, if_false, run_askRoom, hse, Int.toNat_natCast, hzero, hz, hrl, g1]
  | false =>
  have hbig : Nat.ble 4000 (Nat.mul m te.size) = false := hbig
  rw [hbig, cond_false] at h
  simp only [bind_eq, pure_eq, Prod.mk.injEq] at h
  obtain ⟨a, s1, h1, rfl, rfl⟩ := h
  obtain ⟨ρ', rfl, g1, g2, g3⟩ := newTight (P := P) (e' := elem) (arr := _) h1 pre (by rw [hr]; exact repCells_VRs hzv m)
  refine ⟨_, _, ρ', ?_, VR.slAt g2, g3⟩
  by_cases hzero : m * te.size = 0
  · simp only [hzero, if_true] at g1 ⊢
    simp only [Instr.makeSlice, Sem.run_bind, hu, Result.andThen_ok, asInt, asIntOf, Sem.run_pure, hinfo, hby, w1, w2, decide_eq_false c1, decide_eq_false c2, decide_eq_false c3, decide_eq_false c4, Bool.or_false, Bool.false_eq_true, if_false, run_askRoom, hse, Int.toNat_natCast, hzero, if_true, g1]
  · simp only [hzero, if_false] at g1 ⊢
    simp only [Instr.makeSlice, Sem.run_bind, hu, Result.andThen_ok, asInt, asIntOf, Sem.run_pure, hinfo, hby, w1, w2, decide_eq_false c1, decide_eq_false c2, decide_eq_false c3, decide_eq_false c4, Bool.or_false, Bool.false_eq_true, if_false, run_askRoom, hse, Int.toNat_natCast, hzero, hz, g1]

theorem makeSym_ok (C : CxOk P Γ) {t : TypeId} {lo hi : Nat} {z : Int} {v : Value} (h : makeSym Γ t lo hi s = some (v, s')) (pre : Pre Γ ρ s w s') (z1 : (lo : Int) ≤ z + 9223372036854775808) (z2 : z + 9223372036854775808 ≤ hi) :
    DoesV P Γ ρ s w (Instr.makeSlice t (.int .i64 z) (.int .i64 z)) v s' := by
  simp only [makeSym, have_eq, need_eq, pure_eq, Prod.mk.injEq, Bool.and_eq_true, Bool.not_eq_true'] at h
  obtain ⟨ti, hti, elem, hel, te, hte, ⟨hlo, hlim⟩, rfl, rfl⟩ := h
  have hlo := Nat.le_of_ble_eq_true hlo
  have hlim : (hi - 9223372036854775808) * (te.bytes + 1) < 1000000 := ble_false hlim
  obtain ⟨n, rfl⟩ : ∃ n : Nat, z = n := ⟨z.toNat, by omega⟩
  have hn : n ≤ hi - 9223372036854775808 := by omega
  have hnlim : n * (te.bytes + 1) < 1000000 := Nat.lt_of_le_of_lt (Nat.mul_le_mul_right _ hn) hlim
  have hu0 := elemTy_eq hel
  obtain ⟨hu, -, -, -, -⟩ := ty_run C hti
  rw [hu0] at hu
  obtain ⟨-, hse, -, ⟨ie, hie, hby, hsz⟩, z, hz, hzc, hzo⟩ := ty_run C hte
  have hinfo : ∀ w, (typeInfo elem).run P w = .ok ie w := fun w => by simp [typeInfo, hie]
  have hm : n < 1000000 := by
    have : n * 1 ≤ n * (te.bytes + 1) := Nat.mul_le_mul_left _ (by omega)
    omega
  have hmb : te.bytes * n < 1000000 := by
    have : n * (te.bytes + 1) = te.bytes * n + n := by rw [Nat.mul_add, Nat.mul_comm]; omega
    omega
  have w1 : IntKind.i64.wrap (n : Int) = n := by simp [IntKind.wrap, IntKind.bits, IntKind.signed]; omega
  have c1 : ¬ ((n : Int) < 0) := by omega
  have c2 : ¬ ((te.bytes : Int) * (n : Int) > 2 ^ 48) := by
    have h0 : ((te.bytes * n : Nat) : Int) < ((1000000 : Nat) : Int) := Int.ofNat_lt.2 hmb
    rw [Int.natCast_mul] at h0
    omega
  have c4 : ¬ ((n : Int) > (n : Int)) := by omega
  have g1 : ∀ e' arr, (newRow e' arr).run P w = .ok ⟨w.heap.size, 0, none⟩ { w with heap := w.heap.push (.cells arr e') } := fun e' arr => by
    simp only [newRow, Sem.run_bind, run_newObj, Result.andThen_ok, Sem.run_pure]
  by_cases hzero : n * te.size = 0
  · refine ⟨.slice (some ⟨w.heap.size, 0, none⟩) n n, { w with heap := w.heap.push (.cells (Array.map (fun x => (#[] : Array Value)[x % (#[] : Array Value).size]!) (Array.range 0)) elem) }, ρ, ?_, .any _ (by simp) (by simp), Stp.more pre.inv _⟩
    simp only [Instr.makeSlice, Sem.run_bind, hu, Result.andThen_ok, asInt, asIntOf, Sem.run_pure, hinfo, hby, w1, decide_eq_false c1, decide_eq_false c2, decide_eq_false c4, Bool.or_false, Bool.false_eq_true, if_false, run_askRoom, hse, Int.toNat_natCast, hzero, if_true, g1]
  · refine ⟨.slice (some ⟨w.heap.size, 0, none⟩) n n, { w with heap := w.heap.push (.cells (Array.map (fun x => z.cells[x % z.cells.size]!) (Array.range (n * te.size))) elem) }, ρ, ?_, .any _ (by simp) (by simp), Stp.more pre.inv _⟩
    simp only [Instr.makeSlice, Sem.run_bind, hu, Result.andThen_ok, asInt, asIntOf, Sem.run_pure, hinfo, hby, w1, decide_eq_false c1, decide_eq_false c2, decide_eq_false c4, Bool.or_false, Bool.false_eq_true, if_false, run_askRoom, hse, Int.toNat_natCast, hzero, hz, g1]

theorem sameTmp_eq {l c : Operand} (h : sameTmp l c = true) : l = c := by
  unfold sameTmp at h
  split at h
  · split at h
    · exact congrArg Operand.tmp (Nat.eq_of_beq_eq_true h)
    · cases h
  · cases h

end ops
end Go.Ideal

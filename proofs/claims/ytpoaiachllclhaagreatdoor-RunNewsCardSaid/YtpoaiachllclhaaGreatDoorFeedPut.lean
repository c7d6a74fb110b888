/-
  What is put into a channel that has room is in it; what is taken from a channel of one is that. Conditions: none.
-/
import Derived.Test.YtpoaiachllclhaaGreatDoorProg
import Derived.Test.YtpoaiachllclhaaGreatDoorTop
import Derived.Conc.LoneSelect
import Derived.KernelRfl
import Derived.Laws.Rows
namespace Go.Proofs.YtpoaiachllclhaaGreatDoor
open Go Go.Conc Go.RowKit Go.Ideal

theorem heap_setChan' (w : World) (o : Obj) (c cap : Nat) (buf : Array Value) (s r : Nat) (h : c < w.heap.size) : ((w.alloc o).setChan c cap buf false s r false).heap[c]? = some (.chan cap buf false s r false) := by
  have : c < (w.alloc o).heap.size := by simp; omega
  exact heap_setChan _ _ _ _ _ _ _ _ this

theorem stepG_scope {P : Program} {main : Bool} {b : Frame} {a : Act} {k : List Item} {cs : List Frame} {w : World} {c : Code} : stepG P main (G (b.at a (.code (.scope c) :: k)) cs) w = .go (G (b.at a (.code c :: .inScope c :: k)) cs) w := by
  simp [G, stepG, stepG.exec, Frame.at]

def zeroOut : Value := .agg #[.int .i64 0, .int .i64 0, .int .i64 0, .string ⟨#[]⟩, .slice none 0 0]

theorem execOp_store {P : Program} {f : Operand → Value} {o : Oper} {w : World} (t : TypeId) (x y : Operand) (ho : o.op = .store t x y) (old new : List Value) (e : TypeId)
    (hx : f x = .pointer (some ⟨w.heap.size, 0, none⟩)) (hy : f y = .agg new.toArray) (hl : new.length = old.length) (hs : ∀ w, (sizeOf t).run P w = .ok new.length w) (h1 : ∀ v ∈ new, v.oneCell' = true) :
    (execOp f o).run P (w.alloc (.cells old.toArray e)) = .ok .skip (w.alloc (.cells new.toArray e)) := by
  have h1' : ∀ v ∈ new, oneCell v = true := fun v hv => by
    have := h1 v hv
    cases v <;> first | rfl | cases this
  have hh : (w.alloc (.cells old.toArray e)).heap[w.heap.size]? = some (.cells old.toArray e (0, 0)) := by
    show (w.heap.push _)[w.heap.size]? = _
    simp
  obtain ⟨cs', r1, r2, r3⟩ := run_storeCells (P := P) (b := w.heap.size) new 0 0 (w.alloc (.cells old.toArray e)) old.toArray h1' hh (by simp [hl]) (fun k _ _ hk => by omega)
  have hcs : cs' = new.toArray := by
    apply Array.ext_getElem?
    intro k
    rw [r3 k]
    by_cases hk : k < new.length
    · rw [if_pos (by omega)]; simp
    · rw [if_neg (by omega)]
      rw [List.getElem?_toArray, List.getElem?_toArray, List.getElem?_eq_none (by omega), List.getElem?_eq_none (by omega)]
  subst hcs
  have hw : { w.alloc (.cells old.toArray e) with heap := (w.alloc (.cells old.toArray e)).heap.setIfInBounds w.heap.size (.cells new.toArray e (0, 0)) } = w.alloc (.cells new.toArray e) := by
    show { w with heap := (w.heap.push _).setIfInBounds w.heap.size _ } = { w with heap := w.heap.push _ }
    congr 1
    apply Array.ext_getElem?
    intro k
    by_cases hk : k = w.heap.size
    · subst hk; simp
    · rw [Array.getElem?_setIfInBounds_ne (fun h => hk h.symm), Array.getElem?_push, Array.getElem?_push, if_neg hk, if_neg hk]
  have hr : (storeVar t ⟨w.heap.size, 0, none⟩ (.agg new.toArray)).run P (w.alloc (.cells old.toArray e)) = .ok () (w.alloc (.cells new.toArray e)) := by
    simp only [storeVar, Sem.run_bind, hs, Result.andThen_ok, Value.cells, List.size_toArray, ne_eq, not_true_eq_false, if_false]
    rw [hw] at r1
    exact r1
  unfold execOp
  simp only [ho, hx, hy, Instr.storeAt, Instr.sureAddr, Sem.run_bind, Sem.run_pure, Result.andThen_ok, hr]

theorem execOp_append {P : Program} {f : Operand → Value} {o : Oper} {w : World} (t e : TypeId) (i : TypeInfo) (z : Value) (x y : Operand) (ho : o.op = .call { callee := .builtin .append, args := #[x, y], argTypes := #[t, t] })
    (ht : P.underlying t = some (.slice e)) (hi : P.info? e = some i) (hz : i.zero = some z) (a : Addr) (news : List Value) (hx : f x = .slice none 0 0) (hy : f y = .slice (some a) 1 1) (hl : news.length = i.size)
    (hnews : ∀ j v, news[j]? = some v → w.cell? (a.add j) = some v) (h48 : i.bytes ≤ 281474976710656) :
    (execOp f o).run P w = .ok (.value (.slice (some ⟨w.heap.size, 0, none⟩) 1 (grownCap w 1 0 e))) (w.drew.alloc (.cells (news.toArray ++ Builtin.zeroCells z.cells (grownCap w 1 0 e - 1)) e)) := by
  have hr := run_append_nil (P := P) w t o.type e i z ht hi hz a 1 1 news (by omega) hnews (by omega) (by omega) (by omega)
  unfold execOp
  simp only [ho, resolve, invoke, builtin, Sem.run_bind, Sem.run_pure, Result.andThen_ok, List.map_toArray, List.map_cons, List.map_nil, hx, hy, hr]

theorem news_of {w : World} {l : List Value} {e : TypeId} : ∀ (j : Nat) (u : Value), l[j]? = some u → (w.alloc (.cells l.toArray e)).cell? ((⟨w.heap.size, 0, none⟩ : Addr).add j) = some u := by
  intro j u hj
  have e' : ((⟨w.heap.size, 0, none⟩ : Addr).add j) = ⟨w.heap.size, j, none⟩ := by
    unfold Addr.add
    split
    · subst j; rfl
    · simp
  rw [e', World.cell?_alloc_at _ _ _ _ rfl]
  simpa using hj

theorem info_all : (Tryz.prog.info? 56).map (fun i => (i.zero, i.size, i.bytes)) = some (some zeroOut, 5, 64) := by kernel_rfl

theorem info_out' : (Tryz.prog.info? 56).map (·.size) = some 5 := by kernel_rfl

theorem size_out (w : World) : (sizeOf 56).run Tryz.prog w = .ok 5 w := by
  obtain ⟨i, hi, hs⟩ := Option.map_eq_some_iff.1 info_out'
  simp [sizeOf, typeInfo, hi, hs]

set_option maxHeartbeats 1000000 in
set_option maxRecDepth 100000 in
theorem put_walk (w : World) (c cap s r : Nat) (buf : Array Value) (hc : w.heap[c]? = some (.chan cap buf false s r false)) (hroom : buf.size < cap) (x0 x1 x2 x3 x4 : Value) :
    Calls Tryz.prog 17 #[.chan (some c), .agg #[x0, x1, x2, x3, x4]] w fun e w' => e = .returned (.bool true) ∧ ∃ o, w' = (w.alloc o).setChan c cap (buf.push (.agg #[x0, x1, x2, x3, x4])) false (s + 1) r false := by
  refine calls_of_loneTo fun cs => ?_
  have e : Frame.enter Tryz.prog 17 #[.chan (some c), .agg #[x0, x1, x2, x3, x4]] .normal = (base 17).at ⟨#[.chan (some c), .agg #[x0, x1, x2, x3, x4], undef, undef, undef, undef, undef, undef, undef, undef], []⟩ [.code (Tryz.f17.body.getD .skip)] := by
    simp [Frame.enter, Frame.at, Tryz.func17, base, Tryz.f17]
  rw [e]
  have hlt : c < w.heap.size := (Array.getElem?_eq_some_iff.1 hc).1
  refine LoneTo.goes (n := 60) ?_
  simp only [Tryz.f17, Option.getD_some]
  s_c stepG_seq
  s_reg
  s_op
  s_op
  s_c stepG_region_end
  s_c stepG_seq
  s_c stepG_seq
  s_reg
  s_op
  s_c stepG_region_end
  s_reg
  s_op
  s_c stepG_region_end
  s_c stepG_seq
  s_reg
  s_stop
  refine LoneTo.step (step_lone_select_send_room (c := c) (cap := cap) (buf := buf) (s := s) (r := r) (tm := false) (stepG_comm (cases := #[scase c (.agg #[x0, x1, x2, x3, x4]) zeroOut]) (blocking := false) (shape := .select) (w' := w.alloc (.cells #[x0, x1, x2, x3, x4] 56)) rfl rfl (by decide) (by simp [go_sem, execOp, scase, Act.eval, zeroOut])) (by rw [Below.heap_alloc _ _ _ hlt]; exact hc) hroom) ?_
  rw [Frame.finish_at]
  walk_nrm
  refine LoneTo.goes (n := 60) ?_
  s_op
  s_op
  s_c stepG_region_end
  s_c stepG_block
  s_cond true
  s_c stepG_seq
  s_reg
  s_op
  s_c stepG_region_end
  s_c stepG_ret'
  s_stop
  exact LoneTo.done ⟨.returned (.bool true), _, rfl, ⟨rfl, _, rfl⟩, rfl, rfl, rfl, rfl, _, Tryz.func17, by simp [results, Tryz.f17, Frame.at]⟩

set_option maxHeartbeats 1000000 in
set_option maxRecDepth 100000 in
theorem drain_walk (w : World) (c cap s r : Nat) (x0 x1 x2 x3 x4 : Value) (hc : w.heap[c]? = some (.chan cap #[.agg #[x0, x1, x2, x3, x4]] false s r false))
    (h0 : x0.oneCell' = true) (h1 : x1.oneCell' = true) (h2 : x2.oneCell' = true) (h3 : x3.oneCell' = true) (h4 : x4.oneCell' = true) :
    Calls Tryz.prog 18 #[.chan (some c)] w fun e w' => ∃ k o1 o2, 1 ≤ k ∧ e = .returned (.slice (some ⟨w.heap.size + 2, 0, none⟩) 1 k) ∧
      w' = (((w.setChan c cap #[] false s (r + 1) false).alloc o1).alloc o2).drew.alloc (.cells (#[x0, x1, x2, x3, x4] ++ Builtin.zeroCells zeroOut.cells (k - 1)) 56) := by
  refine calls_of_loneTo fun cs => ?_
  have e : Frame.enter Tryz.prog 18 #[.chan (some c)] .normal = (base 18).at ⟨#[.chan (some c), undef, undef, undef, undef, undef, undef, undef, undef, undef, undef, undef, undef, undef, undef], []⟩ [.code (Tryz.f18.body.getD .skip)] := by
    simp [Frame.enter, Frame.at, Tryz.func18, base, Tryz.f18]
  rw [e]
  have hlt : c < w.heap.size := (Array.getElem?_eq_some_iff.1 hc).1
  refine LoneTo.goes (n := 60) ?_
  simp only [Tryz.f18, Option.getD_some]
  s_c stepG_seq
  s_reg
  s_op
  s_c stepG_region_end
  s_c stepG_scope
  s_c stepG_seq
  s_reg
  s_op
  s_c stepG_region_end
  s_c stepG_seq
  s_c stepG_label
  s_c stepG_seq
  s_c stepG_block
  s_c stepG_loop
  s_c stepG_block
  s_c stepG_seq
  s_reg
  s_op
  s_c stepG_region_end
  s_c stepG_seq
  s_reg
  s_stop
  refine LoneTo.step (step_lone_select_recv_buf (c := c) (cap := cap) (buf := #[.agg #[x0, x1, x2, x3, x4]]) (closed := false) (s := s) (r := r) (tm := false) (stepG_comm (cases := #[rcase c zeroOut]) (blocking := false) (shape := .select) (w' := w) rfl rfl (by decide) (by simp [go_sem, execOp, rcase, Act.eval, zeroOut])) hc (by simp)) ?_
  rw [Frame.finish_at]
  have e1 : (#[Value.agg #[x0, x1, x2, x3, x4]].extract 1 #[Value.agg #[x0, x1, x2, x3, x4]].size) = #[] := rfl
  have e2 : #[Value.agg #[x0, x1, x2, x3, x4]].getD 0 undef = .agg #[x0, x1, x2, x3, x4] := rfl
  rw [e1, e2]
  walk_nrm
  have hz : (w.setChan c cap #[] false s (r + 1) false).heap.size = w.heap.size := size_setChan _ _ _ _ _ _ _ _
  have hcz : (w.setChan c cap #[] false s (r + 1) false).heap[c]? = some (.chan cap #[] false s (r + 1) false) := heap_setChan _ _ _ _ _ _ _ _ hlt
  generalize (w.setChan c cap #[] false s (r + 1) false) = w1 at hz hcz ⊢
  refine LoneTo.goes (n := 60) ?_
  s_op
  s_op
  s_c stepG_region_end
  s_c stepG_block
  s_cond true
  s_c stepG_seq
  s_reg
  s_op
  s_op
  s_in
  refine goes_oper_k rfl rfl (by decide) (fun K hK => ?_)
  rw [← hz]
  rw [execOp_store 56 (.tmp 4) (.tmp 9) rfl [.int .i64 0, .int .i64 0, .int .i64 0, .string ⟨#[]⟩, .slice none 0 0] [x0, x1, x2, x3, x4] 56 rfl rfl rfl size_out
    (by intro v hv; simp only [List.mem_cons, List.not_mem_nil, or_false] at hv; rcases hv with rfl | rfl | rfl | rfl | rfl <;> assumption)]
  refine hK _ _ ⟨trivial, ?_⟩
  clear hK K
  walk_nrm
  s_c stepG_region_end
  s_reg
  s_op
  s_op
  s_op
  s_in
  refine goes_oper_k rfl rfl (by decide) (fun K hK => ?_)
  obtain ⟨i, hi, hio⟩ := Option.map_eq_some_iff.1 info_all
  obtain ⟨hio1, hio2, hio3⟩ : i.zero = some zeroOut ∧ i.size = 5 ∧ i.bytes = 64 := by
    injection hio with a b
    injection b with b c
    exact ⟨a, b, c⟩
  have hsz : w.heap.size + 1 = (w1.alloc (.cells #[x0, x1, x2, x3, x4] 56)).heap.size := by simp [hz]
  rw [execOp_append 31 56 i zeroOut (.tmp 10) (.tmp 12) rfl Tryz.underlying31 hi hio1 ⟨w.heap.size + 1, 0, none⟩ [x0, x1, x2, x3, x4] rfl rfl (by rw [hio2]; rfl)
    (by rw [hsz]; exact news_of) (by omega)]
  refine hK _ _ ⟨trivial, ?_⟩
  clear hK K
  have hw2 : ((w1.alloc (.cells #[x0, x1, x2, x3, x4] 56)).alloc (.cells #[x0, x1, x2, x3, x4] 56)).heap.size = w.heap.size + 2 := by simp [hz]
  rw [hw2]
  have hc4 : (((w1.alloc (.cells #[x0, x1, x2, x3, x4] 56)).alloc (.cells #[x0, x1, x2, x3, x4] 56)).drew.alloc (.cells ([x0, x1, x2, x3, x4].toArray ++ Builtin.zeroCells zeroOut.cells (grownCap ((w1.alloc (.cells #[x0, x1, x2, x3, x4] 56)).alloc (.cells #[x0, x1, x2, x3, x4] 56)) 1 0 56 - 1)) 56)).heap[c]? = some (.chan cap #[] false s (r + 1) false) := by
    have hb : Below (c + 1) w1 (((w1.alloc (.cells #[x0, x1, x2, x3, x4] 56)).alloc (.cells #[x0, x1, x2, x3, x4] 56)).drew.alloc (.cells ([x0, x1, x2, x3, x4].toArray ++ Builtin.zeroCells zeroOut.cells (grownCap ((w1.alloc (.cells #[x0, x1, x2, x3, x4] 56)).alloc (.cells #[x0, x1, x2, x3, x4] 56)) 1 0 56 - 1)) 56)) :=
      ((((Below.refl _ _).alloc (by omega) _).alloc (by omega) _).drew).alloc (by simp; omega) _
    rw [hb.block c (by omega)]
    exact hcz
  generalize hk : grownCap ((w1.alloc (.cells #[x0, x1, x2, x3, x4] 56)).alloc (.cells #[x0, x1, x2, x3, x4] 56)) 1 0 56 = k at hc4 ⊢
  generalize hW : (((w1.alloc (.cells #[x0, x1, x2, x3, x4] 56)).alloc (.cells #[x0, x1, x2, x3, x4] 56)).drew.alloc (.cells ([x0, x1, x2, x3, x4].toArray ++ Builtin.zeroCells zeroOut.cells (k - 1)) 56)) = W4 at hc4 ⊢
  walk_nrm
  have fin : ∃ o1 o2, W4 = ((w1.alloc o1).alloc o2).drew.alloc (.cells (#[x0, x1, x2, x3, x4] ++ Builtin.zeroCells zeroOut.cells (k - 1)) 56) := ⟨_, _, hW.symm⟩
  have hk1 : 1 ≤ k := hk ▸ grownCap_ge _ 1 0 _
  clear hW hk hw2 hsz hi hio hio1 hio2 hio3 hz e1 e2
  s_op
  s_c stepG_region_end
  s_c stepG_inBlock
  s_c stepG_inBlock
  s_c stepG_inLoop
  s_c stepG_block
  s_c stepG_seq
  s_reg
  s_op
  s_c stepG_region_end
  s_c stepG_seq
  s_reg
  s_stop
  refine LoneTo.step (step_lone_select_default (c := c) (cap := cap) (s := s) (r := r + 1) (tm := false) (stepG_comm (cases := #[rcase c zeroOut]) (blocking := false) (shape := .select) (w' := W4) rfl rfl (by decide) (by simp [go_sem, execOp, rcase, Act.eval, zeroOut])) hc4) ?_
  rw [Frame.finish_at]
  walk_nrm
  refine LoneTo.goes (n := 60) ?_
  s_op
  s_op
  s_c stepG_region_end
  s_c stepG_block
  s_cond false
  s_exit
  s_c stepG_seq
  s_reg
  s_op
  s_op
  s_c stepG_region_end
  s_c stepG_ret'
  s_stop
  obtain ⟨o1, o2, hf⟩ := fin
  exact LoneTo.done ⟨.returned (.slice (some ⟨w.heap.size + 2, 0, none⟩) 1 k), _, rfl, ⟨k, o1, o2, hk1, rfl, hf⟩, rfl, rfl, rfl, rfl, _, Tryz.func18, by simp [results, Tryz.f18, Frame.at]⟩

end Go.Proofs.YtpoaiachllclhaaGreatDoor

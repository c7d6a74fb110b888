/-
  run.Run of limits that are small and of steps by nobody: as many outs as there are steps, where there are not too many; else none. Conditions: none.
-/
import Derived.Test.YtgpndlfaabhelaaGreatDoorLongKnown
import Derived.WalkKit
import Derived.Lib.Hide
namespace Go.Proofs.YtgpndlfaabhelaaGreatDoor
open Go Go.Ideal Go.RowKit

def zeroCells : List Value := [.int .i64 0, .int .i64 0, .int .i64 0, .int .i64 0, .int .i64 0, .int .i64 0, .int .i64 0, .string ByteArray.empty, .string ByteArray.empty, .slice none 0 0]

theorem repCells_get {n k j : Nat} {z : List Value} (hk : k < n) (hj : j < z.length) : (repCells z n)[k * z.length + j]? = z[j]? := by
  induction n generalizing k with
  | zero => omega
  | succ n ih =>
    simp only [repCells]
    cases k with
    | zero => rw [Nat.zero_mul, Nat.zero_add, List.getElem?_append_left hj]
    | succ k =>
      have e : (k + 1) * z.length + j = z.length + (k * z.length + j) := by rw [Nat.succ_mul]; omega
      rw [e, List.getElem?_append_right (by omega), Nat.add_sub_cancel_left]
      exact ih (by omega)

theorem Live.mono {M M' N : Nat} {w : World} {u : Value} (h : Live M' N w u) (hM : M ≤ M') : Live M N w u := by
  obtain ⟨i, v, s, h1, h2, wf, ρ, g1, g2, g3, g4, g5⟩ := h
  exact ⟨i, v, s, h1, h2, wf, ρ, g1, g2, g3, fun b hb => Nat.le_trans hM (g4 b hb), g5⟩

theorem Borne.back {w : World} {o : Obj} {e : Ending} {w' : World} (h : Borne (w.alloc o) e w') : Borne w e w' := by
  obtain ⟨a, rfl, hb, hl⟩ := h
  have hs : (w.alloc o).heap.size = w.heap.size + 1 := by simp
  exact ⟨a, rfl, ((Below.refl _ _).alloc (Nat.le_refl _) o).trans (hb.mono (by omega)), hl.mono (by omega)⟩

/-- the limits that are spoken of -/
def Small (a b c d e f g : Int) : Prop := (1 ≤ a ∧ a ≤ 6) ∧ (2 ≤ b ∧ b ≤ 10) ∧ (2 ≤ c ∧ c ≤ 17) ∧ (2 ≤ d ∧ d ≤ 13) ∧ (0 ≤ e ∧ e ≤ 15) ∧ (1 ≤ f ∧ f ≤ 20) ∧ (1 ≤ g ∧ g ≤ 20)

theorem new_small {a b c d e f g : Int} (h : Small a b c d e f g) (w : World) :
    Calls Tryz.prog 28 #[.agg #[.int .i64 a, .int .i64 b, .int .i64 c, .int .i64 d, .int .i64 e, .int .i64 f, .int .i64 g]] w (Borne w) :=
  new_any a b c d e f g h.1 h.2.1 h.2.2.1 h.2.2.2.1 h.2.2.2.2.1 h.2.2.2.2.2.1 h.2.2.2.2.2.2 w

set_option maxHeartbeats 800000 in
set_option maxRecDepth 1000000 in
theorem begins_any {a b c d e f g : Int} (h : Small a b c d e f g) (ad : Option Addr) (n cap : Nat) (hn : n ≤ 10000) (w : World) :
    Calls Tryz.prog 13 #[.agg #[.int .i64 a, .int .i64 b, .int .i64 c, .int .i64 d, .int .i64 e, .int .i64 f, .int .i64 g], .slice ad n cap] w (Borne w) := by
  have hd : ¬ (10000 : Int) < (n : Int) := by omega
  go_enter Tryz.func13, Tryz.ntmps13
  go_wp2_with (first | (go_at_call 28; refine (new_small h _).mono ?_; rintro e w1 ⟨u, rfl, hbel, hlive⟩))
  go_ret
  exact Borne.back ⟨u, rfl, hbel, hlive⟩

set_option maxHeartbeats 800000 in
set_option maxRecDepth 1000000 in
theorem begins_long {a b c d e f g : Int} (ad : Option Addr) (n cap : Nat) (hn : 10000 < n) (w : World) :
    Calls Tryz.prog 13 #[.agg #[.int .i64 a, .int .i64 b, .int .i64 c, .int .i64 d, .int .i64 e, .int .i64 f, .int .i64 g], .slice ad n cap] w fun e w' => e = .returned (.pointer none) ∧ Below w.heap.size w w' := by
  have hd : (10000 : Int) < (n : Int) := by omega
  go_enter Tryz.func13, Tryz.ntmps13
  go_wp2
  go_ret
  exact ⟨rfl, (Below.refl _ _).alloc (Nat.le_refl _) _⟩

/-- what run.Run hands back of n steps -/
def RunPost (n : Nat) (w : World) (e : Ending) (w' : World) : Prop :=
  (∃ (r : Value) (cs : List Value), e = .returned (.tuple #[r, .agg cs.toArray, .bool (decide (n ≤ 10000))]) ∧ cs.length = 12 ∧ (∀ x ∈ cs, x.oneCell' = true) ∧ (if n ≤ 10000 then ∃ a c, r = .slice a n c else r = .slice none 0 0)) ∧ Below w.heap.size w w'

theorem own_frame {w w' : World} {B : Nat} {e : TypeId} {size : Nat} {v : Value} {n : Nat} {xs : List Value} (h : w.ownsRow B e size v n xs) (hb : ∀ b, B ≤ b → b < w.heap.size → w'.heap[b]? = w.heap[b]?) : w'.ownsRow B e size v n xs := by
  obtain ⟨h1, h2⟩ := h
  refine ⟨h1, ?_⟩
  rcases h2 with h2 | ⟨g, cap, cur, e1, e2, e3, e4⟩
  · exact .inl h2
  · exact .inr ⟨g, cap, cur, e1, e2, by rw [hb g e2 (Array.getElem?_eq_some_iff.1 e3).1]; exact e3, e4⟩

/-- the loop's relation -/
def Rel (n M N : Nat) (w0 : World) (u : Value) (v i : Value) (wr : World) : Prop :=
  ∃ (k : Nat) (xs : List Value), k ≤ n ∧ i = .int .i64 k ∧ wr.ownsRow N 59 5 v k xs ∧ Live M N wr u ∧ Below M w0 wr ∧ N ≤ wr.heap.size

theorem rel_next {n M N k : Nat} {w0 wr wb wd : World} {u v v' : Value} {xs news : List Value} {o1 o2 : Obj} (hk : k < n) (hMN : M ≤ N) (hN : N ≤ wr.heap.size) (h0 : Below M w0 wr) (hb : Below M (wr.alloc o1) wb) (hl : Live M N wb u)
    (hv : v.ownBlock = none ∨ ∃ g, v.ownBlock = some g ∧ N ≤ g) (hown : wd.ownsRow N 59 5 v' (k + 1) (xs ++ news)) (hg : (wb.alloc o2).grownBy wd v.ownBlock) : Rel n M N w0 u v' (.int .i64 (k + 1 : Nat)) wd := by
  have s1 : (wr.alloc o1).heap.size = wr.heap.size + 1 := by simp
  have s2 : (wb.alloc o2).heap.size = wb.heap.size + 1 := by simp
  have sb := hb.size
  have hrow : ∀ j, v.ownBlock = some j → N ≤ j := fun j hj => by
    rcases hv with hv | ⟨g, hv, hg⟩
    · rw [hv] at hj; cases hj
    · rw [hv] at hj; cases hj; exact hg
  refine ⟨k + 1, xs ++ news, hk, rfl, hown, hl.keep fun b hb' => ?_, ?_, ?_⟩
  · rw [hg.block b (by omega) (fun e => by have := hrow b e.symm; omega), Below.heap_alloc _ _ _ (by omega)]
  · exact (((h0.alloc (by omega) o1).trans hb).alloc (by omega) o2).grown hg (by omega) (fun j hj => Nat.le_trans hMN (hrow j hj))
  · have := hg.size; omega

theorem own_block {w : World} {B : Nat} {e : TypeId} {size : Nat} {v : Value} {n : Nat} {xs : List Value} (h : w.ownsRow B e size v n xs) : v.ownBlock = none ∨ ∃ g, v.ownBlock = some g ∧ B ≤ g := by
  rcases h.2 with ⟨rfl, -⟩ | ⟨g, cap, cur, rfl, e2, -⟩
  · exact .inl rfl
  · exact .inr ⟨g, rfl, e2⟩

theorem info_out : (Tryz.prog.info? 59).map (fun i => (i.zero, i.size, i.bytes)) = some (some (.agg #[.int .i64 0, .int .i64 0, .int .i64 0, .string ByteArray.empty, .slice none 0 0]), 5, 64) := by kernel_rfl

theorem cell_block {w : World} {b : Nat} {l : List Value} {e : TypeId} {fr : Nat × Nat} (h : w.heap[b]? = some (.cells l.toArray e fr)) (o : Nat) : w.cell? ⟨b, o, none⟩ = l[o]? := by
  unfold World.cell?; rw [h]; simp

theorem step_cells {w : World} {b n k : Nat} {e : TypeId} {fr : Nat × Nat} (h : w.heap[b]? = some (.cells (repCells zeroCells n).toArray e fr)) (hk : k < n) (j : Nat) (hj : j < 10) : w.cell? ⟨b, k * 10 + j, none⟩ = zeroCells[j]? := by
  rw [cell_block h]; exact repCells_get (z := zeroCells) hk hj

theorem frozen_block {w : World} {b : Nat} {c : Array Value} {e : TypeId} (h : w.heap[b]? = some (.cells c e (0, 0))) (o : Nat) : w.frozen? ⟨b, o, none⟩ = false := by
  unfold World.frozen?; rw [h]; simp

theorem news_at {w : World} {l : List Value} {e : TypeId} : ∀ (j : Nat) (u : Value), l[j]? = some u → (w.alloc (.cells l.toArray e)).cell? ((⟨w.heap.size, 0, none⟩ : Addr).add j) = some u := by
  intro j u hj
  have e' : ((⟨w.heap.size, 0, none⟩ : Addr).add j) = ⟨w.heap.size, j, none⟩ := by
    unfold Addr.add
    split
    · subst j; rfl
    · simp
  rw [e', World.cell?_alloc_at _ _ _ _ rfl]
  simpa using hj

theorem alloc_get {w : World} {o : Obj} {n : Nat} (h : n = w.heap.size) : (w.alloc o).heap[n]? = some o := by
  subst h
  show (w.heap.push o)[w.heap.size]? = _
  simp

/-- a store of a whole block -/
theorem wpList_store_whole {P : Program} {w : World} {ops : Array Oper} {rest : List Oper} {o : Oper} {a : Act} {Q : Exit → Act → World → Prop} (hgd : o.guard = none) (t : TypeId) (x y : Operand) (ho : o.op = .store t x y) (b : Nat) (old new : List Value) (e : TypeId)
    (hx : a.eval x = .pointer (some ⟨b, 0, none⟩)) (hy : a.eval y = .agg new.toArray) (hh : w.heap[b]? = some (.cells old.toArray e (0, 0))) (hl : new.length = old.length) (hs : ∀ w, (sizeOf t).run P w = .ok new.length w)
    (h1 : ∀ v ∈ new, v.oneCell' = true) (h : ∀ w', w'.heap[b]? = some (.cells new.toArray e (0, 0)) → Below b w w' → wpList P ops Q rest (a.put o.dst undef) w') : wpList P ops Q (o :: rest) a w :=
  wpList_plain hgd fun _ hK => by
    have h1' : ∀ v ∈ new, oneCell v = true := fun v hv => by
      have := h1 v hv
      cases v <;> first | rfl | cases this
    obtain ⟨cs', r1, r2, r3⟩ := run_storeCells (P := P) new 0 0 w old.toArray h1' hh (by simp [hl]) (fun k _ _ hk => by omega)
    have hcs : cs' = new.toArray := by
      apply Array.ext_getElem?
      intro k
      rw [r3 k]
      by_cases hk : k < new.length
      · rw [if_pos (by omega)]; simp
      · rw [if_neg (by omega)]
        rw [List.getElem?_toArray, List.getElem?_toArray, List.getElem?_eq_none (by omega), List.getElem?_eq_none (by omega)]
    subst hcs
    have hb : b < w.heap.size := (Array.getElem?_eq_some_iff.1 hh).1
    have hr : (storeVar t ⟨b, 0, none⟩ (.agg new.toArray)).run P w = .ok () { w with heap := w.heap.setIfInBounds b (.cells new.toArray e (0, 0)) } := by
      simp only [storeVar, Sem.run_bind, hs, Result.andThen_ok, Value.cells, List.size_toArray, ne_eq, not_true_eq_false, if_false]
      exact r1
    unfold Oper.wp execOp
    simp only [ho, hx, hy, Instr.storeAt, Instr.sureAddr, Sem.run_bind, Sem.run_pure, Result.andThen_ok, hr]
    refine hK _ _ (h _ ?_ ⟨rfl, rfl, rfl, by simp, fun k hk => ?_⟩)
    · show (w.heap.setIfInBounds b _)[b]? = _
      simp [hb]
    · show (w.heap.setIfInBounds b _)[k]? = _
      rw [Array.getElem?_setIfInBounds_ne (by omega)]

/-- the cells of a dump that is laid -/
def dumpCells : List Value := [.slice none 0 0, .slice none 0 0, .slice none 0 0, .slice none 0 0, .slice none 0 0, .slice none 0 0, .slice none 0 0, .int .i64 0, .int .i64 0, .int .i64 0, .int .i64 0, .int .i64 0]

set_option maxHeartbeats 4000000 in
set_option maxRecDepth 1000000 in
theorem run_short {a b c d e f g : Int} (h : Small a b c d e f g) (n : Nat) (hn : n ≤ 10000) (sb : Nat) (es : TypeId) (fr : Nat × Nat) (w : World) (hs : w.heap[sb]? = some (.cells (repCells zeroCells n).toArray es fr)) :
    Calls Tryz.prog 5 #[.agg #[.int .i64 a, .int .i64 b, .int .i64 c, .int .i64 d, .int .i64 e, .int .i64 f, .int .i64 g], .slice (some ⟨sb, 0, none⟩) n n] w (RunPost n w) := by
  obtain ⟨i0, hi, hz0, hz1, hz2⟩ := info_parts info_out
  have hsb : sb < w.heap.size := (Array.getElem?_eq_some_iff.1 hs).1
  go_enter Tryz.func5, Tryz.ntmps5
  go_wp2_with (first | (go_at_call 13; refine (begins_any h _ _ _ hn _).mono ?_; rintro e1 w1 ⟨u, rfl, hbel, hlive⟩))
  have hsw : (((w.alloc (.cells #[.int .i64 a, .int .i64 b, .int .i64 c, .int .i64 d, .int .i64 e, .int .i64 f, .int .i64 g] 37)).alloc (.cells dumpCells.toArray 33))).heap.size = w.heap.size + 2 := by simp
  have hM : Live (w.heap.size + 2) w1.heap.size w1 (.pointer (some u)) := hsw ▸ hlive
  have hB : Below (w.heap.size + 2) ((w.alloc (.cells #[.int .i64 a, .int .i64 b, .int .i64 c, .int .i64 d, .int .i64 e, .int .i64 f, .int .i64 g] 37)).alloc (.cells dumpCells.toArray 33)) w1 := hsw ▸ hbel
  have hs1 : w1.heap[sb]? = some (.cells (repCells zeroCells n).toArray es fr) := by
    rw [hB.block sb (by omega), Below.heap_alloc _ _ _ (by simp; omega), Below.heap_alloc _ _ _ (by omega)]; exact hs
  have hMN : w.heap.size + 2 ≤ w1.heap.size := by have := hB.size; rw [hsw] at this; exact this
  clear hbel hlive hsw
  go_loopw [8, 19] (fun v i wr => Rel n (w.heap.size + 2) w1.heap.size w1 (.pointer (some u)) v i wr) (fun _ i _ => n - (intOf i).toNat)
  case atStart => exact ⟨0, [], Nat.zero_le _, rfl, World.ownsRow_nil _ _ _ _, hM, Below.refl _ _, Nat.le_refl _⟩
  case round =>
    obtain ⟨k, xs, hk, rfl, hown, hlv, hb0, hN⟩ := hrel
    have hsr : wr.heap[sb]? = some (.cells (repCells zeroCells n).toArray es fr) := by rw [hb0.block sb (by omega)]; exact hs1
    by_cases hlt : k < n
    · have q0 : wr.cell? ⟨sb, k * 10, none⟩ = some (.int .i64 0) := step_cells hsr hlt 0 (by omega)
      have q1 : wr.cell? ⟨sb, k * 10 + 1, none⟩ = some (.int .i64 0) := step_cells hsr hlt 1 (by omega)
      have q2 : wr.cell? ⟨sb, k * 10 + 2, none⟩ = some (.int .i64 0) := step_cells hsr hlt 2 (by omega)
      have q3 : wr.cell? ⟨sb, k * 10 + 3, none⟩ = some (.int .i64 0) := step_cells hsr hlt 3 (by omega)
      have q4 : wr.cell? ⟨sb, k * 10 + 4, none⟩ = some (.int .i64 0) := step_cells hsr hlt 4 (by omega)
      have q5 : wr.cell? ⟨sb, k * 10 + 5, none⟩ = some (.int .i64 0) := step_cells hsr hlt 5 (by omega)
      have q6 : wr.cell? ⟨sb, k * 10 + 6, none⟩ = some (.int .i64 0) := step_cells hsr hlt 6 (by omega)
      have q7 : wr.cell? ⟨sb, k * 10 + 7, none⟩ = some (.string ByteArray.empty) := step_cells hsr hlt 7 (by omega)
      have q8 : wr.cell? ⟨sb, k * 10 + 8, none⟩ = some (.string ByteArray.empty) := step_cells hsr hlt 8 (by omega)
      have q9 : wr.cell? ⟨sb, k * 10 + 9, none⟩ = some (.slice none 0 0) := step_cells hsr hlt 9 (by omega)
      have hsb2 : sb < wr.heap.size := by omega
      have hsr2 := Lib.hid hsr
      clear hsr
      go_wp2_with fail
      refine (step_any (hlv.keep fun b hb => Below.heap_alloc _ _ _ (by omega)) (by simp; omega)).mono ?_
      rintro e2 wb ⟨c0, c1, c2, c3, c4, rfl, hone, hbel2, hlive2, hfr⟩
      have hown2 : wb.ownsRow w1.heap.size 59 5 u8 k xs := own_frame (hown.alloc _) hfr
      have hrow := own_block hown
      have o0 := hone c0 (by simp)
      have o1 := hone c1 (by simp)
      have o2 := hone c2 (by simp)
      have o3 := hone c3 (by simp)
      have o4 := hone c4 (by simp)
      have hNb : w1.heap.size ≤ wb.heap.size := by have := hbel2.size; simp at this; omega
      clear hfr q0 q1 q2 q3 q4 q5 q6 q7 q8 q9
      go_wp2_with (at_builtin; refine wpList_append_own _ rfl (.tmp 23) (.tmp 27) 23 rfl w1.heap.size 59 i0 (.agg #[.int .i64 0, .int .i64 0, .int .i64 0, .string ByteArray.empty, .slice none 0 0]) 5 64 Tryz.underlying23 hi hz0 hz1 hz2 rfl (by decide) _ k xs rfl (hown2.alloc _) ⟨wb.heap.size, 0, none⟩ 1 1 [c0, c1, c2, c3, c4] rfl rfl ?c1 ?c2 ?c3 ?c4 ?c5 ?_)
      case c1 => exact news_at
      case c2 => exact hone
      case c3 => unfold maxLen; omega
      case c4 => omega
      case c5 => simp; omega
      · intro v' wd hown3 hgrow _
        have R := rel_next hlt hMN hN hb0 hbel2 hlive2 hrow hown3 hgrow
        clear hown3 hgrow hrow hown2 hlive2 hbel2 hone hown hlv hb0 o0 o1 o2 o3 o4
        go_wp2
        go_roundw
        case rel => exact R
        case measure => simp [intOf]; omega
    · obtain rfl : k = n := by omega
      clear hsr
      go_wp2_with fail
      refine (dump_any hlv (by omega)).mono ?_
      rintro e3 we ⟨d0, d1, d2, d3, d4, d5, d6, d7, d8, d9, d10, d11, rfl, hone, hbel3, hfr3⟩
      have hres : we.heap[w.heap.size + 1]? = some (.cells dumpCells.toArray 33 (0, 0)) := by
        rw [hbel3.block _ (by omega), hb0.block _ (by omega), hB.block _ (by omega)]
        exact alloc_get (by simp)
      have hend : Below w.heap.size w we := (((Below.refl _ _).alloc (Nat.le_refl _) _).alloc (by simp) _).trans (((hB.mono (by omega)).trans (hb0.mono (by omega))).trans (hbel3.mono (by omega)))
      have hv : ∃ a c, u8 = .slice a k c := by
        rcases hown.2 with ⟨rfl, rfl⟩ | ⟨g, cap, cur, rfl, -⟩
        · exact ⟨none, 0, rfl⟩
        · exact ⟨_, _, rfl⟩
      clear hfr3 hbel3 hown hlv hb0
      have hsz : ∀ w, (sizeOf 33).run Tryz.prog w = .ok 12 w := fun w => rfl
      go_wp2_with (refine wpList_store_whole rfl 33 (.tmp 5) (.tmp 32) rfl (w.heap.size + 1) dumpCells [d0, d1, d2, d3, d4, d5, d6, d7, d8, d9, d10, d11] 33 rfl rfl hres rfl hsz hone ?_)
      intro w9 hw9 hb9
      go_wp2
      have x0 : w9.cell? ⟨w.heap.size + 1, 0, none⟩ = some d0 := cell_block hw9 0
      have x1 : w9.cell? ⟨w.heap.size + 1, 1, none⟩ = some d1 := cell_block hw9 1
      have x2 : w9.cell? ⟨w.heap.size + 1, 2, none⟩ = some d2 := cell_block hw9 2
      have x3 : w9.cell? ⟨w.heap.size + 1, 3, none⟩ = some d3 := cell_block hw9 3
      have x4 : w9.cell? ⟨w.heap.size + 1, 4, none⟩ = some d4 := cell_block hw9 4
      have x5 : w9.cell? ⟨w.heap.size + 1, 5, none⟩ = some d5 := cell_block hw9 5
      have x6 : w9.cell? ⟨w.heap.size + 1, 6, none⟩ = some d6 := cell_block hw9 6
      have x7 : w9.cell? ⟨w.heap.size + 1, 7, none⟩ = some d7 := cell_block hw9 7
      have x8 : w9.cell? ⟨w.heap.size + 1, 8, none⟩ = some d8 := cell_block hw9 8
      have x9 : w9.cell? ⟨w.heap.size + 1, 9, none⟩ = some d9 := cell_block hw9 9
      have x10 : w9.cell? ⟨w.heap.size + 1, 10, none⟩ = some d10 := cell_block hw9 10
      have x11 : w9.cell? ⟨w.heap.size + 1, 11, none⟩ = some d11 := cell_block hw9 11
      have hlast := hend.trans (hb9.mono (by omega))
      clear hw9 hb9 hend hres hsz
      exact bodyPost_ret (v := .tuple #[u8, .agg #[d0, d1, d2, d3, d4, d5, d6, d7, d8, d9, d10, d11], .bool true]) (by simp [results, Tryz.results5, go_sem, x0, x1, x2, x3, x4, x5, x6, x7, x8, x9, x10, x11]) rfl
        ⟨⟨u8, [d0, d1, d2, d3, d4, d5, d6, d7, d8, d9, d10, d11], by rw [decide_eq_true hn], rfl, hone, by rw [if_pos hn]; exact hv⟩, hlast⟩

set_option maxHeartbeats 4000000 in
set_option maxRecDepth 1000000 in
theorem run_long {a b c d e f g : Int} (n : Nat) (hn : 10000 < n) (sb : Nat) (w : World) :
    Calls Tryz.prog 5 #[.agg #[.int .i64 a, .int .i64 b, .int .i64 c, .int .i64 d, .int .i64 e, .int .i64 f, .int .i64 g], .slice (some ⟨sb, 0, none⟩) n n] w (RunPost n w) := by
  go_enter Tryz.func5, Tryz.ntmps5
  go_wp2_with fail
  refine (begins_long _ _ _ hn _).mono ?_
  rintro e1 we ⟨rfl, hbel⟩
  have hB : Below (w.heap.size + 2) ((w.alloc (.cells #[.int .i64 a, .int .i64 b, .int .i64 c, .int .i64 d, .int .i64 e, .int .i64 f, .int .i64 g] 37)).alloc (.cells dumpCells.toArray 33)) we := hbel.mono (by simp)
  have hres : we.heap[w.heap.size + 1]? = some (.cells dumpCells.toArray 33 (0, 0)) := by
    rw [hB.block _ (by omega)]
    exact alloc_get (by simp)
  have hend : Below w.heap.size w we := (((Below.refl _ _).alloc (Nat.le_refl _) _).alloc (by simp) _).trans (hB.mono (by omega))
  have hone : ∀ v ∈ dumpCells, v.oneCell' = true := by simp [dumpCells, Value.oneCell']
  have hsz : ∀ w, (sizeOf 33).run Tryz.prog w = .ok 12 w := fun w => rfl
  clear hbel hB
  go_wp2_with (refine wpList_store_whole rfl 33 (.tmp 5) (.tmp 16) rfl (w.heap.size + 1) dumpCells dumpCells 33 rfl rfl hres rfl hsz hone ?_)
  intro w9 hw9 hb9
  go_wp2
  have x0 : w9.cell? ⟨w.heap.size + 1, 0, none⟩ = some (.slice none 0 0) := cell_block hw9 0
  have x1 : w9.cell? ⟨w.heap.size + 1, 1, none⟩ = some (.slice none 0 0) := cell_block hw9 1
  have x2 : w9.cell? ⟨w.heap.size + 1, 2, none⟩ = some (.slice none 0 0) := cell_block hw9 2
  have x3 : w9.cell? ⟨w.heap.size + 1, 3, none⟩ = some (.slice none 0 0) := cell_block hw9 3
  have x4 : w9.cell? ⟨w.heap.size + 1, 4, none⟩ = some (.slice none 0 0) := cell_block hw9 4
  have x5 : w9.cell? ⟨w.heap.size + 1, 5, none⟩ = some (.slice none 0 0) := cell_block hw9 5
  have x6 : w9.cell? ⟨w.heap.size + 1, 6, none⟩ = some (.slice none 0 0) := cell_block hw9 6
  have x7 : w9.cell? ⟨w.heap.size + 1, 7, none⟩ = some (.int .i64 0) := cell_block hw9 7
  have x8 : w9.cell? ⟨w.heap.size + 1, 8, none⟩ = some (.int .i64 0) := cell_block hw9 8
  have x9 : w9.cell? ⟨w.heap.size + 1, 9, none⟩ = some (.int .i64 0) := cell_block hw9 9
  have x10 : w9.cell? ⟨w.heap.size + 1, 10, none⟩ = some (.int .i64 0) := cell_block hw9 10
  have x11 : w9.cell? ⟨w.heap.size + 1, 11, none⟩ = some (.int .i64 0) := cell_block hw9 11
  have hlast := hend.trans (hb9.mono (by omega))
  clear hw9 hb9 hend hres hsz
  exact bodyPost_ret (v := .tuple #[.slice none 0 0, .agg dumpCells.toArray, .bool false]) (by simp [dumpCells, results, Tryz.results5, go_sem, x0, x1, x2, x3, x4, x5, x6, x7, x8, x9, x10, x11]) rfl
    ⟨⟨.slice none 0 0, dumpCells, by rw [decide_eq_false (by omega)], rfl, hone, by rw [if_neg (by omega)]⟩, hlast⟩

theorem run_any (a b c d e f g : Int) (ha : 1 ≤ a ∧ a ≤ 6) (hb : 2 ≤ b ∧ b ≤ 10) (hc : 2 ≤ c ∧ c ≤ 17) (hd : 2 ≤ d ∧ d ≤ 13) (he : 0 ≤ e ∧ e ≤ 15) (hf : 1 ≤ f ∧ f ≤ 20) (hg : 1 ≤ g ∧ g ≤ 20) (n : Nat) (_hn : n ≤ 20000) (sb : Nat) (es : TypeId) (fr : Nat × Nat) (w : World)
    (hs : w.heap[sb]? = some (.cells (repCells zeroCells n).toArray es fr)) : Calls Tryz.prog 5 #[.agg #[.int .i64 a, .int .i64 b, .int .i64 c, .int .i64 d, .int .i64 e, .int .i64 f, .int .i64 g], .slice (some ⟨sb, 0, none⟩) n n] w (RunPost n w) := by
  by_cases h : n ≤ 10000
  · exact run_short ⟨ha, hb, hc, hd, he, hf, hg⟩ n h sb es fr w hs
  · exact run_long n (by omega) sb w

end Go.Proofs.YtgpndlfaabhelaaGreatDoor

/-
  RunNews's contract, for every argument and every world that fits. Conditions: none.
-/
import Derived.Test.YtpoaiachllclhaaGreatDoorRows
import Derived.Test.YtpoaiachllclhaaGreatDoorNewsRun
import Derived.Test.YtpoaiachllclhaaGreatDoorDoneF
import Derived.ProofKit
import Derived.OpenShut
import Derived.ChangeOld
import Derived.Deep.DeepHandedRow
import Derived.Lib.LaidTab
import Derived.Lay
import Derived.LaidMore
import Derived.Stop.LaidErr
namespace Go.Proofs.YtpoaiachllclhaaGreatDoor.runNews
open Go Go.ChangeShapes Go.WideShapes Go.ChangeAt Go.RowKit

theorem own : ownKnob Tryz.prog.godebug = none := by kernel_rfl
theorem gSpace : Tryz.prog.globalNamed "strings.asciiSpace" = some 0 := by kernel_rfl
theorem gSpaceType : (Tryz.prog.globals[(0 : Nat)]?).map (·.type) = some 365 := by kernel_rfl
theorem cellsT : Tryz.prog.cellsOf 365 = 256 := by kernel_rfl
theorem cells5 : Tryz.prog.cellsOf 5 = 1 := by kernel_rfl
theorem cellsL : Tryz.prog.cellsOf 23 = 7 := by kernel_rfl
theorem cellsI : Tryz.prog.cellsOf 3 = 1 := by kernel_rfl

/-- WHAT THE ROW's LIST GIVES: the table's cells. -/
theorem table {W : World} (h : laidMetH Tryz.prog Rows.runNewsRow.laid W) : Lib.TabIs Tryz.prog W "strings.asciiSpace" .u8 Lib.asciiSpaceTab := by
  rw [MakeChecks.laidMetH_plain _ _ _ (by kernel_rfl)] at h
  have h2 := laidMet.tail (laidMet.tail h)
  have e : (Rows.laid_strings_asciiSpace : DataW Unit) = Lib.tabData .u8 Lib.asciiSpaceTab := by kernel_rfl
  rw [e] at h2
  exact Lib.tabIs_of_head gSpace gSpaceType Tryz.underlying365 Tryz.underlying5 cells5 cellsT h2

theorem int_at {H : Type} {enc : TypeId × Value → H} {W : World} {base : Nat} {sp : Nat → Bool} {held : Bool} {n : Nat} {v : Value} {y : DataW H × List MemPlace} (h : DataW.trod enc Tryz.prog W base sp held n 3 [v] = some y) : ∃ z : Int, v = .int .i64 z ∧ In64 z := by
  obtain ⟨z, e1, -, hw⟩ := DataW.trod_int Tryz.underlying3 h
  have hw : (decide (-9223372036854775808 ≤ z) && decide (z ≤ 9223372036854775807)) = true := hw
  simp only [Bool.and_eq_true, decide_eq_true_eq] at hw
  simp only [List.cons.injEq, and_true] at e1
  exact ⟨z, e1, hw.1, by omega⟩

set_option maxRecDepth 100000 in
theorem limits7 {H : Type} {enc : TypeId × Value → H} {W : World} {base b0 : Nat} {sp : Nat → Bool} {held : Bool} {v : Value} {d : DataW H} {p : List MemPlace} (hv : Value.okWide Tryz.prog W .any b0 23 v) (h : DataW.Trod enc Tryz.prog W base sp held 23 v d p) :
    ∃ a b c d e f g : Int, v = .agg #[.int .i64 a, .int .i64 b, .int .i64 c, .int .i64 d, .int .i64 e, .int .i64 f, .int .i64 g] ∧ In64 a ∧ In64 b ∧ In64 c ∧ In64 d ∧ In64 e ∧ In64 f ∧ In64 g := by
  obtain ⟨cs, rfl, hsz⟩ := okWide_struct Tryz.underlying23 hv
  obtain ⟨l⟩ := cs
  match l, hsz.trans cellsL with
  | [c0, c1, c2, c3, c4, c5, c6], _ =>
    obtain ⟨fuel, hf⟩ := h
    obtain ⟨xs, n, _, hx, _, hlen, hg⟩ := DataW.trod_struct Tryz.underlying23 hf
    match xs, hlen with
    | [y0, y1, y2, y3, y4, y5, y6], _ =>
      have g0 : DataW.trod enc Tryz.prog W base sp held n 3 [c0] = some y0 := by simpa [Value.cells, cellsI] using hg 0 _ rfl
      have g1 : DataW.trod enc Tryz.prog W base sp held n 3 [c1] = some y1 := by simpa [Value.cells, cellsI] using hg 1 _ rfl
      have g2 : DataW.trod enc Tryz.prog W base sp held n 3 [c2] = some y2 := by simpa [Value.cells, cellsI] using hg 2 _ rfl
      have g3 : DataW.trod enc Tryz.prog W base sp held n 3 [c3] = some y3 := by simpa [Value.cells, cellsI] using hg 3 _ rfl
      have g4 : DataW.trod enc Tryz.prog W base sp held n 3 [c4] = some y4 := by simpa [Value.cells, cellsI] using hg 4 _ rfl
      have g5 : DataW.trod enc Tryz.prog W base sp held n 3 [c5] = some y5 := by simpa [Value.cells, cellsI] using hg 5 _ rfl
      have g6 : DataW.trod enc Tryz.prog W base sp held n 3 [c6] = some y6 := by simpa [Value.cells, cellsI] using hg 6 _ rfl
      obtain ⟨z0, rfl, k0⟩ := int_at g0
      obtain ⟨z1, rfl, k1⟩ := int_at g1
      obtain ⟨z2, rfl, k2⟩ := int_at g2
      obtain ⟨z3, rfl, k3⟩ := int_at g3
      obtain ⟨z4, rfl, k4⟩ := int_at g4
      obtain ⟨z5, rfl, k5⟩ := int_at g5
      obtain ⟨z6, rfl, k6⟩ := int_at g6
      exact ⟨z0, z1, z2, z3, z4, z5, z6, rfl, k0, k1, k2, k3, k4, k5, k6⟩

set_option maxRecDepth 100000 in
theorem contract (H : Type) (enc : TypeId × Value → H) (W : World) (base : Nat) (args : Array Value) (ds gs : List (DataW H)) (before : List MemPlace)
    (hval : ∀ (j : Nat) t v, Tryz.f3.params[j]? = some t → args[j]? = some v → Value.okWide Tryz.prog W .any base t v)
    (hW : DataW.Whole enc Tryz.prog Tryz.f3.params.toList Rows.runNewsSpec.vars false W args.toList ds gs before) (hL : laidMetH Tryz.prog Rows.runNewsRow.laid W) (hS : W.ShapedOpen Tryz.prog) :
    Calls Tryz.prog 3 args W fun e W' => ∃ v, e = .returned v ∧ Rows.runNewsSpec.post enc Tryz.prog Tryz.f3 false true false false W args v W' := by
  have hW' := hW
  obtain ⟨p, q, hA0, hV, rfl, hfz, hnd⟩ := hW
  have hA : DataW.TrodAll enc Tryz.prog W 0 (fun _ => true) true Tryz.f3.params.toList args.toList ds p := hA0
  rw [Tryz.params3] at hA hval
  obtain ⟨v0, vs0, d0, ds0, p0, q0, hargs, rfl, rfl, h0, r0⟩ := trodAll_cons hA
  obtain ⟨rfl, rfl, rfl⟩ := trodAll_nil r0
  obtain rfl : args = #[v0] := by cases args; simp_all
  obtain ⟨rfl, rfl⟩ := trodVars_none hV
  have k0 := h0
  have lt0 : ∀ x ∈ p0, x.block < W.heap.size := by obtain ⟨m, hm⟩ := k0; exact DataW.trod_lt m _ _ _ hm
  obtain ⟨a, b, c, d, e, f, g, rfl, ha, hb, hc, hd, he, hf, hg⟩ := limits7 (hval 0 23 v0 rfl rfl) h0
  clear hA0 hval
  refine (runNews_any (W := W) (table hL) hS a b c d e f g ha hb hc hd he hf hg W (two_keep fun _ _ => rfl)).mono fun e W' ⟨he, bel⟩ => ?_
  subst he
  exact ⟨_, rfl, _, _, _, [], _, [], hW', trodAll_mk1 (shut_bool Tryz.underlying4 _), (trodAll_cons_mk (Below.trod laidOut (by kernel_rfl) (of_decide_eq_true (by kernel_rfl)) k0 bel lt0) trodAll_mk0), rfl, bel.frame _, fun h => by cases h⟩

end Go.Proofs.YtpoaiachllclhaaGreatDoor.runNews

/-
  RunLong's contract, for every argument and every world that fits. Conditions: none.
-/
import Derived.Test.YtgpndlfaabhelaaGreatDoorRows
import Derived.Test.YtgpndlfaabhelaaGreatDoorLongRun
import Derived.Test.YtgpndlfaabhelaaGreatDoorDoneF
import Derived.ProofKit
import Derived.OpenShut
import Derived.ChangeOld
import Derived.Deep.DeepHandedRow
import Derived.Lib.LaidTab
import Derived.Lay
import Derived.LaidMore
import Derived.Stop.LaidErr
namespace Go.Proofs.YtgpndlfaabhelaaGreatDoor.runLong
open Go Go.ChangeShapes Go.WideShapes Go.ChangeAt Go.RowKit

theorem own : ownKnob Tryz.prog.godebug = none := by kernel_rfl
theorem gSpace : Tryz.prog.globalNamed "strings.asciiSpace" = some 0 := by kernel_rfl
theorem gSpaceType : (Tryz.prog.globals[(0 : Nat)]?).map (·.type) = some 366 := by kernel_rfl
theorem cellsT : Tryz.prog.cellsOf 366 = 256 := by kernel_rfl
theorem cells5 : Tryz.prog.cellsOf 5 = 1 := by kernel_rfl
theorem cells7 : Tryz.prog.cellsOf 22 = 7 := by kernel_rfl

/-- WHAT THE ROW's LIST GIVES: the table's cells. -/
theorem table {W : World} (h : laidMetH Tryz.prog Rows.runLongRow.laid W) : Lib.TabIs Tryz.prog W "strings.asciiSpace" .u8 Lib.asciiSpaceTab := by
  rw [MakeChecks.laidMetH_plain _ _ _ (by kernel_rfl)] at h
  have h2 := laidMet.tail (laidMet.tail h)
  have e : (Rows.laid_strings_asciiSpace : DataW Unit) = Lib.tabData .u8 Lib.asciiSpaceTab := by kernel_rfl
  rw [e] at h2
  exact Lib.tabIs_of_head gSpace gSpaceType Tryz.underlying366 Tryz.underlying5 cells5 cellsT h2

theorem bytes7 {H : Type} {enc : TypeId × Value → H} {W : World} {base : Nat} {sp : Nat → Bool} {held : Bool} {v : Value} {d : DataW H} {p : List MemPlace} (h : DataW.Trod enc Tryz.prog W base sp held 22 v d p) :
    ∃ a b c d e f g : Int, v = .agg #[.int .u8 a, .int .u8 b, .int .u8 c, .int .u8 d, .int .u8 e, .int .u8 f, .int .u8 g] ∧ (0 ≤ a ∧ a ≤ 255) ∧ (0 ≤ b ∧ b ≤ 255) ∧ (0 ≤ c ∧ c ≤ 255) ∧ (0 ≤ d ∧ d ≤ 255) ∧ (0 ≤ e ∧ e ≤ 255) ∧ (0 ≤ f ∧ f ≤ 255) ∧ (0 ≤ g ∧ g ≤ 255) := by
  obtain ⟨fuel, hf⟩ := h
  obtain ⟨xs, m, rfl, hx, hlen, hxl, hel⟩ := DataW.trod_array Tryz.underlying22 hf
  rw [cells7] at hlen
  rw [cells5] at hel
  have hv : ∃ l : List Value, v = .agg l.toArray ∧ v.cells.toList = l := by
    cases v <;> first | (simp [Value.cells] at hlen; done) | exact ⟨_, by simp; rfl, by simp [Value.cells]⟩
  obtain ⟨l, hv, hl⟩ := hv
  rw [hl] at hlen hel
  have one : ∀ i, i < 7 → ∃ z : Int, l[i]? = some (.int .u8 z) ∧ 0 ≤ z ∧ z ≤ 255 := by
    intro i hi
    have hE := hel i hi
    rw [Nat.mul_one, List.getElem?_eq_getElem (by omega)] at hE
    obtain ⟨z, e1, -, hw⟩ := DataW.trod_int Tryz.underlying5 hE
    refine ⟨z, ?_, ?_⟩
    · have h0 : ((l.drop i).take 1)[0]? = some (.int .u8 z) := by rw [e1]; rfl
      simpa using h0
    · have hw : (decide (0 ≤ z) && decide (z ≤ 255)) = true := hw
      simpa using hw
  match l, hlen, one, hv with
  | [x0, x1, x2, x3, x4, x5, x6], _, one, hv =>
    obtain ⟨a, ha, ha'⟩ := one 0 (by omega)
    obtain ⟨b, hb, hb'⟩ := one 1 (by omega)
    obtain ⟨c, hc, hc'⟩ := one 2 (by omega)
    obtain ⟨d, hd, hd'⟩ := one 3 (by omega)
    obtain ⟨e, he, he'⟩ := one 4 (by omega)
    obtain ⟨f, hf, hf'⟩ := one 5 (by omega)
    obtain ⟨g, hg, hg'⟩ := one 6 (by omega)
    obtain rfl := Option.some.inj ha
    obtain rfl := Option.some.inj hb
    obtain rfl := Option.some.inj hc
    obtain rfl := Option.some.inj hd
    obtain rfl := Option.some.inj he
    obtain rfl := Option.some.inj hf
    obtain rfl := Option.some.inj hg
    exact ⟨a, b, c, d, e, f, g, hv, ha', hb', hc', hd', he', hf', hg'⟩

set_option maxRecDepth 100000 in
theorem contract (H : Type) (enc : TypeId × Value → H) (W : World) (base : Nat) (args : Array Value) (ds gs : List (DataW H)) (before : List MemPlace)
    (hval : ∀ (j : Nat) t v, Tryz.f3.params[j]? = some t → args[j]? = some v → Value.okWide Tryz.prog W .any base t v)
    (hW : DataW.Whole enc Tryz.prog Tryz.f3.params.toList Rows.runLongSpec.vars false W args.toList ds gs before) (hL : laidMetH Tryz.prog Rows.runLongRow.laid W) (hS : W.ShapedOpen Tryz.prog) :
    Calls Tryz.prog 3 args W fun e W' => ∃ v, e = .returned v ∧ Rows.runLongSpec.post enc Tryz.prog Tryz.f3 false true false false W args v W' := by
  have hW' := hW
  obtain ⟨p, q, hA0, hV, rfl, hfz, hnd⟩ := hW
  have hA : DataW.TrodAll enc Tryz.prog W 0 (fun _ => true) true Tryz.f3.params.toList args.toList ds p := hA0
  rw [Tryz.params3] at hA hval
  obtain ⟨v0, vs0, d0, ds0, p0, q0, hargs, rfl, rfl, h0, r0⟩ := trodAll_cons hA
  obtain ⟨v1, vs1, d1, ds1, p1, q1, rfl, rfl, rfl, h1, r1⟩ := trodAll_cons r0
  obtain ⟨rfl, rfl, rfl⟩ := trodAll_nil r1
  obtain rfl : args = #[v0, v1] := by cases args; simp_all
  obtain ⟨rfl, rfl⟩ := trodVars_none hV
  have k0 := h0
  have lt0 : ∀ x ∈ p0, x.block < W.heap.size := by obtain ⟨m, hm⟩ := k0; exact DataW.trod_lt m _ _ _ hm
  obtain ⟨a, b, c, d, e, f, g, rfl, ha, hb, hc, hd, he, hf, hg⟩ := bytes7 h0
  obtain ⟨m, rfl, rfl, rfl, wm⟩ := open_int Tryz.underlying5 (hval 1 5 v1 rfl rfl) h1
  have hm : 0 ≤ m ∧ m ≤ 255 := by
    have hw : (decide (0 ≤ m) && decide (m ≤ 255)) = true := wm
    simpa using hw
  clear hA0 hval
  refine (runLong_any (W := W) (table hL) hS a b c d e f g m ha hb hc hd he hf hg hm W (two_keep fun _ _ => rfl)).mono fun e W' ⟨he, bel⟩ => ?_
  subst he
  exact ⟨_, rfl, _, _, _, [], _, [], hW', trodAll_mk1 (shut_bool Tryz.underlying4 _), (trodAll_cons_mk (Below.trod laidOut (by kernel_rfl) (of_decide_eq_true (by kernel_rfl)) k0 bel lt0) (trodAll_cons_mk (shut_int Tryz.underlying5 wm) trodAll_mk0)), rfl, bel.frame _, fun h => by cases h⟩

end Go.Proofs.YtgpndlfaabhelaaGreatDoor.runLong

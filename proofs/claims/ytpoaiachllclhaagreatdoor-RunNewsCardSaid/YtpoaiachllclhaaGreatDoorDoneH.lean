/-
  The closed facts that the card asks. Conditions: none.
-/
import Derived.Test.YtpoaiachllclhaaGreatDoorCards
import Derived.SevenTiedAt
namespace Go.Proofs.YtpoaiachllclhaaGreatDoor.runNews
open Go

theorem named : Tryz.prog.funcNamed "purlieu/purlieulaw25.RunNews" = some 3 := by kernel_rfl
theorem cardW : Rows.runNewsRow.wfByText (OpenSpec.ofChange Rows.runNewsSpec) = true := by kernel_rfl
theorem cardM : Tryz.pinned.checked.prog.mainIs = some (true, ("f9f4499fa72651cd2dca790b5ec44fde53d238bb8d9f729439974b98a2db6151" : String).toList) := by kernel_rfl
theorem noGo : Tryz.prog.funcs.any Func.goes = false := by kernel_rfl

theorem goes_no (f : FuncId) : Tryz.prog.goes f = false := by
  unfold Program.goes
  rw [noGo, Bool.and_false, Bool.or_false, List.any_eq_false]
  intro g _
  cases h : Tryz.prog.funcs[g]? with
  | none => simp
  | some fn =>
    have := Array.any_eq_false.1 noGo g (Array.getElem?_eq_some_iff.1 h).1
    rw [(Array.getElem?_eq_some_iff.1 h).2] at this
    simpa using this

theorem goesBy_no {P : Program} {c : OpenClaim} (hs : c.start = .entering) (h : ∀ f, P.goes f = false) : false = c.goesBy P := by
  unfold OpenClaim.goesBy Program.goesAt Program.goesFrom
  rw [hs]
  cases P.funcNamed c.func <;> simp [h]

set_option maxRecDepth 100000 in
theorem cardG : false = Rows.runNewsRow.goesBy Tryz.pinned.checked.prog := goesBy_no (P := Tryz.prog) rfl goes_no

theorem noLooks : false = Tryz.pinned.checked.prog.looks [] := by kernel_rfl
theorem noStand : ([23].all fun u => !Tryz.prog.wantsStandIn u) = true := by kernel_rfl

/-- No parameter wants a stand-in; the program's own looks are off. -/
theorem plain (f : FuncId) (fn : Func) (hf : Tryz.pinned.checked.prog.funcNamed "purlieu/purlieulaw25.RunNews" = some f) (hfn : Tryz.pinned.checked.prog.funcs[f]? = some fn) :
    false = Tryz.pinned.checked.prog.looks [] ∧ ∀ (j : Nat) t, fn.params[j]? = some t → Tryz.pinned.checked.prog.wantsStandIn t = false := by
  obtain rfl : f = 3 := Option.some.inj (named.symm.trans hf) |>.symm
  obtain rfl : fn = Tryz.f3 := (Option.some.inj (Tryz.func3.symm.trans hfn)).symm
  refine ⟨noLooks, fun j t ht => ?_⟩
  rw [Tryz.params3] at ht
  have hm : t ∈ [23] := by simpa using Array.mem_of_getElem? ht
  have hall := noStand
  exact (show Tryz.prog.wantsStandIn t = false by simpa using List.all_eq_true.1 hall t hm)

end Go.Proofs.YtpoaiachllclhaaGreatDoor.runNews

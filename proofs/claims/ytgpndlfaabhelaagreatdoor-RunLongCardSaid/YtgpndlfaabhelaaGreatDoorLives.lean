/-
  The closed call 'lives' answers true, by the evaluator. Conditions: what two variables of Go's library hold in the world of the start.
-/
import Derived.Test.YtgpndlfaabhelaaGreatDoorExt
import Derived.Test.YtgpndlfaabhelaaGreatDoorTop
import Derived.Test.YtgpndlfaabhelaaGreatDoorFacts
import Derived.Test.YtgpndlfaabhelaaGreatDoorShelf
namespace Go.Proofs.YtgpndlfaabhelaaGreatDoor
open Go Go.Ideal Go.RowKit Go.Shelf

/-- the blocks of two variables -/
def twoBlocks (W : World) (b : Nat) : Option Obj := bif Nat.beq b 0 || Nat.beq b 2 then W.heap[b]? else none

noncomputable def gamL (fx : Nat → Option Obj) : Cx := cxOf Tryz.prog [(559, .indexByte), (122, .fields), (512, .split)] [] fx

theorem lives_answers (fx : Nat → Option Obj) : answers (gamL fx) 2000 200 7 100 = true := by kernel_rfl

theorem ext_cases {fx : Nat → Option Obj} {f : Nat} {e : Ext} (h : (gamL fx).ext f = some e) :
    (f = 559 ∧ e = .indexByte) ∨ (f = 122 ∧ e = .fields) ∨ (f = 512 ∧ e = .split) := by
  have h : findExt f [(559, .indexByte), (122, .fields), (512, .split)] = some e := h
  simp only [findExt] at h
  cases h1 : Nat.beq 559 f with
  | true => rw [h1] at h; exact .inl ⟨(Nat.eq_of_beq_eq_true h1).symm, (Option.some.inj h).symm⟩
  | false =>
    rw [h1] at h
    cases h2 : Nat.beq 122 f with
    | true => rw [h2] at h; exact .inr (.inl ⟨(Nat.eq_of_beq_eq_true h2).symm, (Option.some.inj h).symm⟩)
    | false =>
      rw [h2] at h
      cases h3 : Nat.beq 512 f with
      | true => rw [h3] at h; exact .inr (.inr ⟨(Nat.eq_of_beq_eq_true h3).symm, (Option.some.inj h).symm⟩)
      | false => rw [h3] at h; cases h

theorem isIndex : IsIndex Tryz.prog 559 Tryz.f559 :=
  ⟨Tryz.func559, by kernel_rfl, by kernel_rfl, by kernel_rfl, by kernel_rfl⟩

theorem enters {f : Nat} {fn : Func} (hf : Tryz.prog.funcs[f]? = some fn) (hb : fn.body.isNone = false) (hn : (fn.name == "runtime.NumGoroutine") = false) (args : Array Value) (w : World) :
    (callFunc f args).run Tryz.prog w = .ok (.enter f args) w := by
  simp only [callFunc, Sem.run_bind, run_program, Result.andThen_ok, hf, hn, hb, Bool.false_eq_true, if_false, Sem.run_pure]

theorem tab_keep {P : Program} {W w : World} {name : String} {b : Nat} (hn : P.globalNamed name = some b) (h : w.heap[b]? = W.heap[b]?) {k : IntKind} {zs : List Int} (ht : Lib.TabIs P W name k zs) : Lib.TabIs P w name k zs := by
  unfold Lib.TabIs World.var? at ht ⊢
  rw [hn, Option.bind_some] at ht ⊢
  rw [h]
  exact ht

variable {W : World}

theorem isFields (ht : Lib.TabIs Tryz.prog W "strings.asciiSpace" .u8 Lib.asciiSpaceTab) : IsFields Tryz.prog (gamL (twoBlocks W)) 122 :=
  ⟨enters Tryz.func122 (by kernel_rfl) (by kernel_rfl), ⟨_, fun s w hs hascii hfix => by
    have hn : Tryz.prog.globalNamed "strings.asciiSpace" = some 0 := Tryz.laysFields.m0
    have hb : w.heap[(0 : Nat)]? = W.heap[(0 : Nat)]? := by
      cases ho : W.heap[(0 : Nat)]? with
      | none =>
        exfalso
        unfold Lib.TabIs World.var? at ht
        rw [hn] at ht
        simp [ho] at ht
      | some o => exact hfix _ o ho
    exact Any.strings_Fields_laid Tryz.laysFields s w hs hascii (tab_keep hn hb ht)⟩⟩

theorem isSplit (hW : W.ShapedOpen Tryz.prog) : IsSplit Tryz.prog (gamL (twoBlocks W)) 512 :=
  ⟨enters Tryz.func512 (by kernel_rfl) (by kernel_rfl), ⟨_, fun s sep w hs h1 hfix => by
    obtain ⟨m, hm⟩ := Tryz.laysSplit.s1_3 W hW
    have hm : W.cell? ⟨2, 0, none⟩ = some (.int .i64 m) := hm
    have hb : w.heap[(2 : Nat)]? = W.heap[(2 : Nat)]? := by
      cases ho : W.heap[(2 : Nat)]? with
      | none => exfalso; simp [World.cell?, ho] at hm
      | some o => exact hfix _ o ho
    have hm' : w.cell? ⟨2, 0, none⟩ = some (.int .i64 m) := by
      rw [← hm]; exact World.cell?_of_block (w := W) hb
    exact Any.strings_Split { Tryz.laysSplit with } Tryz.laysSplit.i9 s sep m w hs hm' h1⟩⟩

theorem extL (ht : Lib.TabIs Tryz.prog W "strings.asciiSpace" .u8 Lib.asciiSpaceTab) (hW : W.ShapedOpen Tryz.prog) : ExtOk Tryz.prog (gamL (twoBlocks W)) :=
  extOk_of fun f e h => by
    rcases ext_cases h with ⟨rfl, rfl⟩ | ⟨rfl, rfl⟩ | ⟨rfl, rfl⟩
    · exact .inl ⟨rfl, _, isIndex⟩
    · exact .inr (.inl ⟨rfl, isFields ht⟩)
    · exact .inr (.inr (.inl ⟨rfl, isSplit hW⟩))

/-- lives is true, from whatever world in which the two variables stand as at the start -/
theorem lives_any (ht : Lib.TabIs Tryz.prog W "strings.asciiSpace" .u8 Lib.asciiSpaceTab) (hW : W.ShapedOpen Tryz.prog) (w : World) (hx : ∀ b o, twoBlocks W b = some o → w.heap[b]? = some o) :
    Calls Tryz.prog 7 #[] w fun e w' => e = .returned (.bool true) ∧ Below w.heap.size w w' := by
  have C : CxOk Tryz.prog (gamL (twoBlocks W)) := cxOf_ok _ _ _
  have he : (gamL (twoBlocks W)).ext 7 = none := rfl
  have E : ExtOk Tryz.prog (gamL (twoBlocks W)) := @extL W ht hW
  refine (closed_true (Γ := gamL (twoBlocks W)) C mixed @E names (n := 100) (by omega) he (lives_answers (twoBlocks W)) w hx).mono ?_
  rintro e w' ⟨rfl, h1, h2, h3, h4, h5⟩
  exact ⟨rfl, h1, h2, h3, h4, h5⟩

/-- below the end of the start's memory nothing has turned -/
theorem two_keep {W w : World} (hb : ∀ b, b < W.heap.size → w.heap[b]? = W.heap[b]?) (b : Nat) (o : Obj) (h : twoBlocks W b = some o) : w.heap[b]? = some o := by
  unfold twoBlocks at h
  cases hc : (Nat.beq b 0 || Nat.beq b 2) with
  | false => rw [hc] at h; cases h
  | true =>
    rw [hc] at h
    have h : W.heap[b]? = some o := h
    rw [hb b (Array.getElem?_eq_some_iff.1 h).1]; exact h

end Go.Proofs.YtgpndlfaabhelaaGreatDoor

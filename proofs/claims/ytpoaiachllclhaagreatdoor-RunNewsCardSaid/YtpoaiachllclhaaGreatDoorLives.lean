/-
  The closed call 'lives' answers true, by the evaluator. Conditions: what two variables of Go's library hold in the world of the start.
-/
import Derived.Test.YtpoaiachllclhaaGreatDoorExt
import Derived.Test.YtpoaiachllclhaaGreatDoorTop
import Derived.Test.YtpoaiachllclhaaGreatDoorFacts
import Derived.Test.YtpoaiachllclhaaGreatDoorShelf
namespace Go.Proofs.YtpoaiachllclhaaGreatDoor
open Go Go.Ideal Go.RowKit Go.Shelf

/-- the blocks of two variables -/
def twoBlocks (W : World) (b : Nat) : Option Obj := bif Nat.beq b 0 || Nat.beq b 2 then W.heap[b]? else none

noncomputable def gamL (fx : Nat → Option Obj) : Cx := cxOf Tryz.prog [(558, .indexByte), (121, .fields), (511, .split)] [] fx

theorem lives_answers (fx : Nat → Option Obj) : answers (gamL fx) 2000 200 10 100 = true := by kernel_rfl

theorem ext_cases {fx : Nat → Option Obj} {f : Nat} {e : Ext} (h : (gamL fx).ext f = some e) :
    (f = 558 ∧ e = .indexByte) ∨ (f = 121 ∧ e = .fields) ∨ (f = 511 ∧ e = .split) := by
  have h : findExt f [(558, .indexByte), (121, .fields), (511, .split)] = some e := h
  simp only [findExt] at h
  cases h1 : Nat.beq 558 f with
  | true => rw [h1] at h; exact .inl ⟨(Nat.eq_of_beq_eq_true h1).symm, (Option.some.inj h).symm⟩
  | false =>
    rw [h1] at h
    cases h2 : Nat.beq 121 f with
    | true => rw [h2] at h; exact .inr (.inl ⟨(Nat.eq_of_beq_eq_true h2).symm, (Option.some.inj h).symm⟩)
    | false =>
      rw [h2] at h
      cases h3 : Nat.beq 511 f with
      | true => rw [h3] at h; exact .inr (.inr ⟨(Nat.eq_of_beq_eq_true h3).symm, (Option.some.inj h).symm⟩)
      | false => rw [h3] at h; cases h

theorem isIndex : IsIndex Tryz.prog 558 Tryz.f558 :=
  ⟨Tryz.func558, by kernel_rfl, by kernel_rfl, by kernel_rfl, by kernel_rfl⟩

theorem enters {f : Nat} {fn : Func} (hf : Tryz.prog.funcs[f]? = some fn) (hb : fn.body.isNone = false) (hn : (fn.name == "runtime.NumGoroutine") = false) (args : Array Value) (w : World) :
    (callFunc f args).run Tryz.prog w = .ok (.enter f args) w := by
  simp only [callFunc, Sem.run_bind, run_program, Result.andThen_ok, hf, hn, hb, Bool.false_eq_true, if_false, Sem.run_pure]

theorem tab_keep {P : Program} {W w : World} {name : String} {b : Nat} (hn : P.globalNamed name = some b) (h : w.heap[b]? = W.heap[b]?) {k : IntKind} {zs : List Int} (ht : Lib.TabIs P W name k zs) : Lib.TabIs P w name k zs := by
  unfold Lib.TabIs World.var? at ht ⊢
  rw [hn, Option.bind_some] at ht ⊢
  rw [h]
  exact ht

variable {W : World}

theorem isFields (ht : Lib.TabIs Tryz.prog W "strings.asciiSpace" .u8 Lib.asciiSpaceTab) {Γ : Cx} (hf : ∀ b o, twoBlocks W b = some o → Γ.fix b = some o) : IsFields Tryz.prog Γ 121 :=
  ⟨enters Tryz.func121 (by kernel_rfl) (by kernel_rfl), ⟨_, fun s w hs hascii hfix => by
    have hn : Tryz.prog.globalNamed "strings.asciiSpace" = some 0 := Tryz.laysFields.m0
    have hb : w.heap[(0 : Nat)]? = W.heap[(0 : Nat)]? := by
      cases ho : W.heap[(0 : Nat)]? with
      | none =>
        exfalso
        unfold Lib.TabIs World.var? at ht
        rw [hn] at ht
        simp [ho] at ht
      | some o => exact hfix _ o (hf _ o ho)
    exact Any.strings_Fields_laid Tryz.laysFields s w hs hascii (tab_keep hn hb ht)⟩⟩

theorem isSplit (hW : W.ShapedOpen Tryz.prog) {Γ : Cx} (hf : ∀ b o, twoBlocks W b = some o → Γ.fix b = some o) : IsSplit Tryz.prog Γ 511 :=
  ⟨enters Tryz.func511 (by kernel_rfl) (by kernel_rfl), ⟨_, fun s sep w hs h1 hfix => by
    obtain ⟨m, hm⟩ := Tryz.laysSplit.s1_3 W hW
    have hm : W.cell? ⟨2, 0, none⟩ = some (.int .i64 m) := hm
    have hb : w.heap[(2 : Nat)]? = W.heap[(2 : Nat)]? := by
      cases ho : W.heap[(2 : Nat)]? with
      | none => exfalso; simp [World.cell?, ho] at hm
      | some o => exact hfix _ o (hf _ o ho)
    have hm' : w.cell? ⟨2, 0, none⟩ = some (.int .i64 m) := by
      rw [← hm]; exact World.cell?_of_block (w := W) hb
    exact Any.strings_Split { Tryz.laysSplit with } Tryz.laysSplit.i9 s sep m w hs hm' h1⟩⟩

theorem extL (ht : Lib.TabIs Tryz.prog W "strings.asciiSpace" .u8 Lib.asciiSpaceTab) (hW : W.ShapedOpen Tryz.prog) : ExtOk Tryz.prog (gamL (twoBlocks W)) :=
  extOk_of fun f e h => by
    rcases ext_cases h with ⟨rfl, rfl⟩ | ⟨rfl, rfl⟩ | ⟨rfl, rfl⟩
    · exact .inl ⟨rfl, _, isIndex⟩
    · exact .inr (.inl ⟨rfl, isFields ht fun _ _ h => h⟩)
    · exact .inr (.inr (.inl ⟨rfl, isSplit hW fun _ _ h => h⟩))

/-- lives is true, from whatever world in which the two variables stand as at the start -/
theorem lives_any (ht : Lib.TabIs Tryz.prog W "strings.asciiSpace" .u8 Lib.asciiSpaceTab) (hW : W.ShapedOpen Tryz.prog) (w : World) (hx : ∀ b o, twoBlocks W b = some o → w.heap[b]? = some o) :
    Calls Tryz.prog 10 #[] w fun e w' => e = .returned (.bool true) ∧ Below w.heap.size w w' := by
  have C : CxOk Tryz.prog (gamL (twoBlocks W)) := cxOf_ok _ _ _
  have he : (gamL (twoBlocks W)).ext 10 = none := rfl
  have E : ExtOk Tryz.prog (gamL (twoBlocks W)) := @extL W ht hW
  refine (closed_true (Γ := gamL (twoBlocks W)) C mixed @E names (n := 100) (by omega) (fun _ => rfl) he (lives_answers (twoBlocks W)) w hx).mono ?_
  rintro e w' ⟨rfl, h1, h2, h3, h4, h5⟩
  exact ⟨rfl, h1, h2, h3, h4, h5⟩

/-- below the end of the start's memory nothing has turned -/
theorem two_keep {W w : World} (hb : ∀ b, b < W.heap.size → w.heap[b]? = W.heap[b]?) (b : Nat) (o : Obj) (h : twoBlocks W b = some o) : w.heap[b]? = some o := by
  unfold twoBlocks at h
  cases hc : (Nat.beq b 0 || Nat.beq b 2) with
  | false => rw [hc] at h; cases h
  | true =>
    rw [hc] at h
    have h : W.heap[b]? = some o := h
    rw [hb b (Array.getElem?_eq_some_iff.1 h).1]; exact h

def livesF : List Value → Option Value
  | [] => some (.bool true)
  | _ => none

set_option maxRecDepth 1000000 in
theorem livesExt (ht : Lib.TabIs Tryz.prog W "strings.asciiSpace" .u8 Lib.asciiSpaceTab) (hW : W.ShapedOpen Tryz.prog) {Γ : Cx} (hf : ∀ b o, twoBlocks W b = some o → Γ.fix b = some o) : ExtAt Tryz.prog Γ 10 (.pure livesF) := by
  intro zs zs' v s s' ρ w hv wf pre ha F hF
  simp only [extV, need_eq, lift_eq, Prod.mk.injEq] at hv
  obtain ⟨-, u, hu, rfl, rfl⟩ := hv
  unfold livesF at hu
  split at hu
  · obtain rfl := Option.some.inj hu
    obtain rfl := ha.nil_ex
    rw [enters Tryz.func10 (by kernel_rfl) (by kernel_rfl)]
    refine hF.calls (CallsIn.mono (callsIn_wide.2 (lives_any ht hW w fun b o hb => (pre.fix.keep b o (hf b o hb)).1)) ?_)
    rintro e w' ⟨rfl, hbel⟩
    exact ⟨_, ρ, rfl, .bool _, Stp.below pre.inv hbel rfl⟩
  · cases hu

def isTrue : Option (Value × HS) → Bool
  | some (.bool b, _) => b
  | _ => false

end Go.Proofs.YtpoaiachllclhaaGreatDoor

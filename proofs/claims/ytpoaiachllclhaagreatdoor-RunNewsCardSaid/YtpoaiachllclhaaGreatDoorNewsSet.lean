/-
  What the evaluator is to know for RunNews, and what it is asked. Conditions: what two variables of Go's library hold in the world of the start.
-/
import Derived.Test.YtpoaiachllclhaaGreatDoorLives
import Derived.Test.YtpoaiachllclhaaGreatDoorFeedExt
import Derived.Test.YtpoaiachllclhaaGreatDoorTop2
namespace Go.Proofs.YtpoaiachllclhaaGreatDoor
open Go Go.Ideal Go.RowKit

/-- one and the same plain value -/
def sameP (x y : Value) : Bool :=
  match x with
  | .bool a => match y with | .bool b => a == b | _ => false
  | .int k a => match y with | .int k' b => decide (k = k') && decide (a = b) | _ => false
  | .string a => match y with | .string b => sameBytes a.data.toList b.data.toList | _ => false
  | .slice a n c => match y with | .slice b m d => a.isNone && (b.isNone && (Nat.beq n m && Nat.beq c d)) | _ => false
  | .pointer a => match y with | .pointer b => a.isNone && b.isNone | _ => false
  | _ => false

def samePs : List Value → List Value → Bool
  | [] => fun l => match l with
    | [] => true
    | _ :: _ => false
  | x :: xs => fun l => match l with
    | [] => false
    | y :: ys => sameP x y && samePs xs ys

def sameArg (x y : Value) : Bool :=
  match x with
  | .agg a => match y with | .agg b => samePs a.toList b.toList | _ => false
  | x => sameP x y

def sameArgs : List Value → List Value → Bool
  | [] => fun l => match l with
    | [] => true
    | _ :: _ => false
  | x :: xs => fun l => match l with
    | [] => false
    | y :: ys => sameArg x y && sameArgs xs ys

theorem sameP_eq {x y : Value} (h : sameP x y = true) : x = y := by
  unfold sameP at h
  cases x <;> cases y <;> simp only [Bool.and_eq_true, decide_eq_true_eq, Option.isNone_iff_eq_none] at h <;> first
    | (cases h; done)
    | (rw [beq_iff_eq] at h; rw [h]; done)
    | (rw [h.1, h.2]; done)
    | (rw [h.1, h.2.1, Nat.eq_of_beq_eq_true h.2.2.1, Nat.eq_of_beq_eq_true h.2.2.2]; done)
    | skip
  rename_i a b
  rw [sameBytes_eq, beq_iff_eq] at h
  obtain ⟨⟨a⟩⟩ := a
  obtain ⟨⟨b⟩⟩ := b
  simp only at h
  rw [h]

theorem samePs_eq : ∀ {x y : List Value}, samePs x y = true → x = y := by
  intro x
  induction x with
  | nil => intro y h; cases y <;> first | rfl | cases h
  | cons a x ih =>
    intro y h
    cases y with
    | nil => cases h
    | cons b y =>
      simp only [samePs, Bool.and_eq_true] at h
      rw [sameP_eq h.1, ih h.2]

theorem sameArg_eq {x y : Value} (h : sameArg x y = true) : x = y := by
  cases x with
  | agg a =>
    cases y with
    | agg b =>
      obtain ⟨l⟩ := a
      obtain ⟨m⟩ := b
      rw [samePs_eq (x := l) (y := m) h]
    | _ => cases h
  | _ => exact sameP_eq h

theorem sameArgs_eq : ∀ {x y : List Value}, sameArgs x y = true → x = y := by
  intro x
  induction x with
  | nil => intro y h; cases y <;> first | rfl | cases h
  | cons a x ih =>
    intro y h
    cases y with
    | nil => cases h
    | cons b y =>
      simp only [sameArgs, Bool.and_eq_true] at h
      rw [sameArg_eq h.1, ih h.2]

/-- what is answered at one list of arguments -/
def pureAt (qs : List Value) (v : Value) : List Value → Option Value := fun zs => bif sameArgs zs qs then some v else none

def answersIs (r : Option (Value × HS)) (v : Value) : Bool := match r with
  | some (u, _) => sameArg u v
  | none => false

variable {W : World}

set_option maxRecDepth 1000000 in
/-- a function that has been run at plain arguments -/
theorem pureExt (ht : Lib.TabIs Tryz.prog W "strings.asciiSpace" .u8 Lib.asciiSpaceTab) (hW : W.ShapedOpen Tryz.prog) {Γ : Cx} (hf : ∀ b o, twoBlocks W b = some o → Γ.fix b = some o) {f : Nat} {fn : Func} {qs : List Value} {v : Value}
    (h : answersIs (callF (gamL (twoBlocks W)) 2000 200 true f qs (boot 100 [])) v = true) (he : (gamL (twoBlocks W)).ext f = none) (has : ∀ a ∈ qs, plainConst a = true) (hv : plainConst v = true)
    (h1 : Tryz.prog.funcs[f]? = some fn) (h2 : fn.body.isNone = false) (h3 : (fn.name == "runtime.NumGoroutine") = false) : ExtAt Tryz.prog Γ f (.pure (pureAt qs v)) := by
  intro zs zs' v' s s' ρ w hv' wf pre ha F hF
  simp only [extV, need_eq, lift_eq, Prod.mk.injEq] at hv'
  obtain ⟨-, u, hu, rfl, rfl⟩ := hv'
  unfold pureAt at hu
  cases hb : sameArgs zs qs with
  | false => rw [hb] at hu; cases hu
  | true =>
    rw [hb] at hu
    obtain rfl := Option.some.inj hu
    have hzs := sameArgs_eq hb
    subst hzs
    have hzz : zs' = zs := by
      apply List.ext_getElem?
      intro j
      cases hj : zs[j]? with
      | none => rw [List.getElem?_eq_none_iff] at hj ⊢; rw [← ha.1]; exact hj
      | some a =>
        obtain ⟨a', g1, g2⟩ := ha.get hj
        rw [g1, plainConst_eq (has a (List.mem_of_getElem? hj)) g2]
    subst hzz
    rw [enters h1 h2 h3]
    unfold answersIs at h
    split at h
    · rename_i u s2 hr
      have hu := sameArg_eq h
      subst hu
      have R : Ready Tryz.prog (gamL (twoBlocks W)) := ⟨cxOf_ok _ _ _, mixed, @extL W ht hW, names⟩
      refine hF.calls (CallsIn.mono (callsIn_wide.2 (call_new R (rounds := 2000) (k := 200) (n := 100) (by decide) (fun _ => rfl) he hr (VRs.refl_of fun a hm => plainConst_VR _ (has a hm)) w (fun b o hb => (pre.fix.keep b o (hf b o hb)).1))) ?_)
      rintro e w' ⟨u', rfl, hbel, hk⟩
      obtain ⟨-, ρ', hvr, -⟩ := hk
      rw [plainConst_eq hv hvr]
      exact ⟨_, ρ, rfl, plainConst_VR _ hv, Stp.below pre.inv hbel rfl⟩
    · cases h

/-- the bytes of 'proccalls' -/
def procWord : Value := .string ⟨#[112, 114, 111, 99, 99, 97, 108, 108, 115]⟩
def req14 : Value := .agg #[.int .i64 14, .int .i64 0, .int .i64 0, .int .i64 0, .int .i64 0, .int .i64 0, .string ⟨#[]⟩, .string ⟨#[]⟩, .slice none 0 0]
def groupF : List Value → Option Value := pureAt [.int .i64 14] procWord
def gateF : List Value → Option Value := pureAt [req14, .bool false] (.int .i64 0)

theorem group_is (fx : Nat → Option Obj) : answersIs (callF (gamL fx) 2000 200 true 74 [.int .i64 14] (boot 100 [])) procWord = true := by kernel_rfl
theorem gate_is (fx : Nat → Option Obj) : answersIs (callF (gamL fx) 2000 200 true 229 [req14, .bool false] (boot 100 [])) (.int .i64 0) = true := by kernel_rfl

theorem findExt_mem {f : Nat} {e : Ext} : ∀ {l : List (Nat × Ext)}, findExt f l = some e → (f, e) ∈ l := by
  intro l
  induction l with
  | nil => intro h; cases h
  | cons p l ih =>
    intro h
    simp only [findExt] at h
    cases hb : Nat.beq p.1 f with
    | true =>
      rw [hb] at h
      have h1 := Nat.eq_of_beq_eq_true hb
      have h2 := Option.some.inj h
      rw [← h1, ← h2]
      exact List.mem_cons_self ..
    | false => rw [hb] at h; exact List.mem_cons_of_mem _ (ih h)

def newsExts : List (Nat × Ext) := [(74, .pure groupF), (229, .pure gateF), (10, .pure livesF), (17, .put 5), (18, .drain 5 56)]

def newsEqs : List (Nat × List Leaf) := [(24, [.i, .i, .i, .i, .i]), (142, [.i, .i, .b, .i, .b, .b, .i])]

noncomputable def gamN (fx : Nat → Option Obj) : Cx := cxOf Tryz.prog newsExts newsEqs fx

def digSym (mn mx : Nat) (n : Nat) : Value :=
  match n with
  | 0 => .complex .f64 0 (Nat.add mn 9223372036854775807)
  | 1 => .complex .f64 (Nat.add mn 9223372036854775808) (Nat.add mx 9223372036854775808)
  | _ => .complex .f64 (Nat.add mx 9223372036854775809) 18446744073709551615

def limGood (k : Nat) : Value := .agg #[digSym 1 64 1, .int .i64 (.ofNat k), digSym 1 256 1, digSym 1 256 1, digSym 0 4096 1, digSym 1 4096 1, digSym 1 4096 1]

noncomputable def newsOk (fx : Nat → Option Obj) (v : Value) : Bool := isTrue (callF (gamN fx) 2000 200 true 3 [v] (boot 100 []))

theorem outTy (fx : Nat → Option Obj) : ∃ te, (gamN fx).ty 56 = some te ∧ te.size = 5 := by
  have h : ((gamN fx).ty 56).map (·.size) = some 5 := by kernel_rfl
  exact Option.map_eq_some_iff.1 h

theorem eqsN : newsEqs.all (fun q => eqB Tryz.prog q.1 q.2) = true := by kernel_rfl

theorem plain14 : ∀ a ∈ [Value.int .i64 14], plainConst a = true := fun a h => by
  rw [List.mem_singleton] at h; subst h; rfl
theorem plainReq : ∀ a ∈ [req14, Value.bool false], plainConst a = true := fun a h => by
  simp only [List.mem_cons, List.not_mem_nil, or_false] at h
  rcases h with rfl | rfl <;> rfl

set_option maxRecDepth 1000000 in
theorem extN (ht : Lib.TabIs Tryz.prog W "strings.asciiSpace" .u8 Lib.asciiSpaceTab) (hW : W.ShapedOpen Tryz.prog) {Γ : Cx} (hf : ∀ b o, twoBlocks W b = some o → Γ.fix b = some o) (hty : ∃ te, Γ.ty 56 = some te ∧ te.size = 5)
    {f : Nat} {e : Ext} (h : (f, e) ∈ newsExts) : ExtAt Tryz.prog Γ f e := by
  simp only [newsExts, List.mem_cons, Prod.mk.injEq, List.not_mem_nil, or_false] at h
  rcases h with ⟨rfl, rfl⟩ | ⟨rfl, rfl⟩ | ⟨rfl, rfl⟩ | ⟨rfl, rfl⟩ | ⟨rfl, rfl⟩
  · exact pureExt ht hW hf (group_is _) rfl plain14 rfl Tryz.func74 (by kernel_rfl) (by kernel_rfl)
  · exact pureExt ht hW hf (gate_is _) rfl plainReq rfl Tryz.func229 (by kernel_rfl) (by kernel_rfl)
  · exact livesExt ht hW hf
  · exact putExt
  · exact drainExt hty

set_option maxRecDepth 1000000 in
theorem readyN (ht : Lib.TabIs Tryz.prog W "strings.asciiSpace" .u8 Lib.asciiSpaceTab) (hW : W.ShapedOpen Tryz.prog) : Ready Tryz.prog (gamN (twoBlocks W)) :=
  ⟨cxOf_eqs _ _ _ _ eqsN, mixed, extOk_of fun _ _ h => .inr (.inr (.inr (extN ht hW (fun _ _ h => h) (outTy _) (findExt_mem (l := newsExts) h)))), names⟩

end Go.Proofs.YtpoaiachllclhaaGreatDoor

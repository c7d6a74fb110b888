/-
  Limits of which some are not as they may be: there is no world: of all numbers. Conditions: none.
-/
import Derived.Test.YtpoaiachllclhaaGreatDoorNewsNew
namespace Go.Proofs.YtpoaiachllclhaaGreatDoor
open Go Go.Ideal Go.RowKit

theorem all3 {p : Nat → Bool} (h : all3B p = true) {n : Nat} (hn : n < 3) : p n = true := by
  simp only [all3B, Bool.and_eq_true] at h
  match n, hn with
  | 0, _ => exact h.1
  | 1, _ => exact h.2.1
  | 2, _ => exact h.2.2

theorem bad_all {a b : Nat} (ha : a < 3) (hb : b < 3) : badW a b = true := by
  match a, ha, b, hb with
  | 0, _, 0, _ => exact bad00
  | 0, _, 1, _ => exact bad01
  | 0, _, 2, _ => exact bad02
  | 1, _, 0, _ => exact bad10
  | 1, _, 1, _ => exact bad11
  | 1, _, 2, _ => exact bad12
  | 2, _, 0, _ => exact bad20
  | 2, _, 1, _ => exact bad21
  | 2, _, 2, _ => exact bad22

def dig (mn mx : Nat) (z : Int) : Nat := if z < mn then 0 else if z ≤ mx then 1 else 2

theorem dig_lt (mn mx : Nat) (z : Int) : dig mn mx z < 3 := by unfold dig; split <;> (try split) <;> omega

theorem dig_one {mn mx : Nat} {z : Int} (h : Nat.beq (dig mn mx z) 1 = true) : (mn : Int) ≤ z ∧ z ≤ mx := by
  have h := Nat.eq_of_beq_eq_true h
  unfold dig at h
  split at h
  · cases h
  · split at h
    · omega
    · cases h

theorem dig_is {mn mx : Nat} {z : Int} (h1 : (mn : Int) ≤ z) (h2 : z ≤ mx) : dig mn mx z = 1 := by
  unfold dig
  rw [if_neg (by omega), if_pos h2]

def In64 (z : Int) : Prop := -9223372036854775808 ≤ z ∧ z < 9223372036854775808

theorem symI {ρ : Rho} {lo hi : Nat} {z : Int} (h1 : (lo : Int) ≤ z + 9223372036854775808) (h2 : z + 9223372036854775808 ≤ hi) (h3 : hi < 18446744073709551616) : VR ρ (.complex .f64 lo hi) (.int .i64 z) := .sym _ _ _ h1 h2 h3

theorem dig1_VR {ρ : Rho} {mn mx : Nat} {z : Int} (h : (mn : Int) ≤ z ∧ z ≤ mx) (h2 : mx < 10000) : VR ρ (digS mn mx 1) (.int .i64 z) :=
  symI (lo := mn + 9223372036854775808) (hi := mx + 9223372036854775808) (by omega) (by omega) (by omega)

theorem digS_VR {ρ : Rho} {mn mx : Nat} {z : Int} (h : In64 z) (h2 : mn < 10000 ∧ mx < 10000) : VR ρ (digS mn mx (dig mn mx z)) (.int .i64 z) := by
  obtain ⟨h0, h1⟩ := h
  unfold dig
  by_cases a : z < mn
  · rw [if_pos a]
    exact symI (lo := 0) (hi := mn + 9223372036854775807) (by omega) (by omega) (by omega)
  · rw [if_neg a]
    by_cases b : z ≤ mx
    · rw [if_pos b]
      exact dig1_VR ⟨by omega, b⟩ h2.2
    · rw [if_neg b]
      exact symI (lo := mx + 9223372036854775809) (hi := 18446744073709551615) (by omega) (by omega) (by omega)

theorem any_int {ρ : Rho} (z : Int) : VR ρ (.chan none) (.int .i64 z) := .any _ (fun _ h => by cases h) (fun _ h => by cases h)

/-- as limits may be -/
def Good (a b c d e f g : Int) : Prop := (1 ≤ a ∧ a ≤ 64) ∧ (1 ≤ b ∧ b ≤ 64) ∧ (1 ≤ c ∧ c ≤ 256) ∧ (1 ≤ d ∧ d ≤ 256) ∧ (0 ≤ e ∧ e ≤ 4096) ∧ (1 ≤ f ∧ f ≤ 4096) ∧ (1 ≤ g ∧ g ≤ 4096)

def agg7 (a b c d e f g : Int) : Value := .agg #[.int .i64 a, .int .i64 b, .int .i64 c, .int .i64 d, .int .i64 e, .int .i64 f, .int .i64 g]

theorem agg7_VR {ρ : Rho} {u0 u1 u2 u3 u4 u5 u6 : Value} {a b c d e f g : Int} (h0 : VR ρ u0 (.int .i64 a)) (h1 : VR ρ u1 (.int .i64 b)) (h2 : VR ρ u2 (.int .i64 c)) (h3 : VR ρ u3 (.int .i64 d)) (h4 : VR ρ u4 (.int .i64 e)) (h5 : VR ρ u5 (.int .i64 f)) (h6 : VR ρ u6 (.int .i64 g)) :
    VR ρ (.agg #[u0, u1, u2, u3, u4, u5, u6]) (agg7 a b c d e f g) :=
  VR.agg' (VRs.cons h0 (VRs.cons h1 (VRs.cons h2 (VRs.cons h3 (VRs.cons h4 (VRs.cons h5 (VRs.cons h6 (VRs.nil _))))))))

theorem none_from {v v' : Value} (h : noneW v = true) (hv : ∀ ρ, VR ρ v v') (w : World) : Calls Tryz.prog 27 #[v'] w fun e w' => e = .returned (.pointer none) ∧ Below w.heap.size w w' := by
  unfold noneW answersIs at h
  split at h
  · rename_i u s hr
    obtain rfl := sameArg_eq h
    refine (call_new readyZ (rounds := 100) (k := 60) (n := 100) (by decide) (fun _ => rfl) rfl hr (VRs.cons (hv _) (VRs.nil _)) w (fun _ _ h => by cases h)).mono ?_
    rintro e w' ⟨u, rfl, hbel, hk⟩
    obtain ⟨-, ρ, hvr, -⟩ := hk
    cases hvr
    exact ⟨rfl, hbel⟩
  · cases h

def Untrue (w : World) (e : Ending) (w' : World) : Prop := ∃ u, e = .returned (.tuple #[u, .bool false]) ∧ (∀ l, u ≠ .agg l) ∧ (∀ l, u ≠ .tuple l) ∧ Below w.heap.size w w'

theorem ref_from {v v' : Value} (h : noneR v = true) (hv : ∀ ρ, VR ρ v v') (w : World) : Calls Tryz.prog 14 #[v'] w (Untrue w) := by
  unfold noneR at h
  cases hr : callF gamZ 100 60 true 14 [v] (boot 100 []) with
  | none => rw [hr] at h; cases h
  | some p =>
    obtain ⟨r, s⟩ := p
    rw [hr] at h
    unfold isFalse2 at h
    split at h
    · rename_i vs s2 heq
      obtain ⟨rfl, rfl⟩ : r = .tuple vs ∧ s = s2 := by
        have := Option.some.inj heq
        exact ⟨congrArg Prod.fst this, congrArg Prod.snd this⟩
      split at h
      · rename_i x b hvs
        simp only [Bool.and_eq_true, Bool.not_eq_true'] at h
        obtain ⟨h1, rfl⟩ := h
        obtain ⟨l⟩ := vs
        have hvs : l = [x, .bool false] := hvs
        subst hvs
        refine (call_new readyZ (rounds := 100) (k := 60) (n := 100) (by decide) (fun _ => rfl) rfl hr (VRs.cons (hv _) (VRs.nil _)) w (fun _ _ h => by cases h)).mono ?_
        rintro e w' ⟨u, rfl, hbel, hk⟩
        obtain ⟨-, ρ, hvr, -⟩ := hk
        obtain ⟨l', rfl, hl⟩ := hvr.tup_inv
        obtain ⟨y, r', rfl, hy, hl⟩ := hl.ex
        obtain ⟨z, r', rfl, hz, hl⟩ := hl.ex
        obtain rfl := hl.nil_ex
        cases hz
        obtain ⟨n1, n2⟩ := VR.notAgg h1 hy
        exact ⟨y, rfl, n1, n2, hbel⟩
      · cases h
    · cases h

theorem new_bad {a b c d e f g : Int} (ha : In64 a) (hb : In64 b) (hc : In64 c) (hd : In64 d) (he : In64 e) (hf : In64 f) (hg : In64 g) (h : ¬ Good a b c d e f g) (w : World) :
    Calls Tryz.prog 27 #[agg7 a b c d e f g] w fun e w' => e = .returned (.pointer none) ∧ Below w.heap.size w w' := by
  have hall := all3 (all3 (all3 (all3 (bad_all (dig_lt 1 64 a) (dig_lt 1 64 b)) (dig_lt 1 256 c)) (dig_lt 1 256 d)) (dig_lt 0 4096 e)) (dig_lt 1 4096 g)
  cases ho : one6 (dig 1 64 a) (dig 1 64 b) (dig 1 256 c) (dig 1 256 d) (dig 0 4096 e) (dig 1 4096 g) with
  | false =>
    rw [ho, Bool.false_or] at hall
    exact none_from hall (fun ρ => agg7_VR (digS_VR ha (by omega)) (digS_VR hb (by omega)) (digS_VR hc (by omega)) (digS_VR hd (by omega)) (digS_VR he (by omega)) (any_int f) (digS_VR hg (by omega))) w
  | true =>
    simp only [one6, Bool.and_eq_true] at ho
    obtain ⟨o1, o2, o3, o4, o5, o6⟩ := ho
    have p1 := dig_one o1
    have p2 := dig_one o2
    have p3 := dig_one o3
    have p4 := dig_one o4
    have p5 := dig_one o5
    have p6 := dig_one o6
    have hP := badP
    rw [Bool.and_eq_true] at hP
    have hn : f < 1 ∨ 4096 < f := by
      apply Classical.byContradiction
      intro hh
      exact h ⟨by omega, by omega, by omega, by omega, by omega, by omega, by omega⟩
    rcases hn with hn | hn
    · have e0 : dig 1 4096 f = 0 := by unfold dig; rw [if_pos (by omega)]
      exact none_from hP.1 (fun ρ => agg7_VR (dig1_VR p1 (by omega)) (dig1_VR p2 (by omega)) (dig1_VR p3 (by omega)) (dig1_VR p4 (by omega)) (dig1_VR p5 (by omega)) (by rw [← e0]; exact digS_VR hf (by omega)) (dig1_VR p6 (by omega))) w
    · have e0 : dig 1 4096 f = 2 := by unfold dig; rw [if_neg (by omega), if_neg (by omega)]
      exact none_from hP.2 (fun ρ => agg7_VR (dig1_VR p1 (by omega)) (dig1_VR p2 (by omega)) (dig1_VR p3 (by omega)) (dig1_VR p4 (by omega)) (dig1_VR p5 (by omega)) (by rw [← e0]; exact digS_VR hf (by omega)) (dig1_VR p6 (by omega))) w

theorem ref_bad {a b c d e f g : Int} (ha : In64 a) (hb : In64 b) (hc : In64 c) (hd : In64 d) (he : In64 e) (hf : In64 f) (hg : In64 g) (h : ¬ Good a b c d e f g) (w : World) :
    Calls Tryz.prog 14 #[agg7 a b c d e f g] w (Untrue w) := by
  have hIB := all3 (all3 refIB (dig_lt 1 256 d)) (dig_lt 0 4096 e)
  cases o1 : (Nat.beq (dig 1 256 d) 1 && Nat.beq (dig 0 4096 e) 1) with
  | false =>
    rw [o1, Bool.false_or] at hIB
    exact ref_from hIB (fun ρ => agg7_VR (any_int a) (any_int b) (any_int c) (digS_VR hd (by omega)) (digS_VR he (by omega)) (any_int f) (any_int g)) w
  | true =>
    rw [Bool.and_eq_true] at o1
    have p4 := dig_one o1.1
    have p5 := dig_one o1.2
    have hA := all3 refA (dig_lt 1 64 a)
    cases o2 : Nat.beq (dig 1 64 a) 1 with
    | false =>
      rw [o2, Bool.false_or] at hA
      exact ref_from hA (fun ρ => agg7_VR (digS_VR ha (by omega)) (any_int b) (any_int c) (dig1_VR p4 (by omega)) (dig1_VR p5 (by omega)) (any_int f) (any_int g)) w
    | true =>
      have p1 := dig_one o2
      have hB := all3 refB (dig_lt 1 64 b)
      cases o3 : Nat.beq (dig 1 64 b) 1 with
      | false =>
        rw [o3, Bool.false_or] at hB
        exact ref_from hB (fun ρ => agg7_VR (dig1_VR p1 (by omega)) (digS_VR hb (by omega)) (any_int c) (dig1_VR p4 (by omega)) (dig1_VR p5 (by omega)) (any_int f) (any_int g)) w
      | true =>
        have p2 := dig_one o3
        have hC := all3 refC (dig_lt 1 256 c)
        cases o4 : Nat.beq (dig 1 256 c) 1 with
        | false =>
          rw [o4, Bool.false_or] at hC
          exact ref_from hC (fun ρ => agg7_VR (dig1_VR p1 (by omega)) (dig1_VR p2 (by omega)) (digS_VR hc (by omega)) (dig1_VR p4 (by omega)) (dig1_VR p5 (by omega)) (any_int f) (any_int g)) w
        | true =>
          have p3 := dig_one o4
          have hF := all3 refF (dig_lt 1 4096 f)
          cases o5 : Nat.beq (dig 1 4096 f) 1 with
          | false =>
            rw [o5, Bool.false_or] at hF
            exact ref_from hF (fun ρ => agg7_VR (dig1_VR p1 (by omega)) (dig1_VR p2 (by omega)) (dig1_VR p3 (by omega)) (dig1_VR p4 (by omega)) (dig1_VR p5 (by omega)) (digS_VR hf (by omega)) (any_int g)) w
          | true =>
            have p6 := dig_one o5
            have hG := all3 refG (dig_lt 1 4096 g)
            cases o6 : Nat.beq (dig 1 4096 g) 1 with
            | false =>
              rw [o6, Bool.false_or] at hG
              exact ref_from hG (fun ρ => agg7_VR (dig1_VR p1 (by omega)) (dig1_VR p2 (by omega)) (dig1_VR p3 (by omega)) (dig1_VR p4 (by omega)) (dig1_VR p5 (by omega)) (dig1_VR p6 (by omega)) (digS_VR hg (by omega))) w
            | true =>
              have p7 := dig_one o6
              exact absurd ⟨by omega, by omega, by omega, by omega, by omega, by omega, by omega⟩ h

end Go.Proofs.YtpoaiachllclhaaGreatDoor

namespace Go.Proofs.YtpoaiachllclhaaGreatDoor
open Go Go.Ideal Go.RowKit

def isName (k : Nat) : Value → Bool
  | .float t i => match t with
    | .f32 => Nat.beq i k
    | .f64 => false
  | _ => false

def isNames : List Value → Bool
  | [a, b, c, d, e, f, g] => isName 0 a && (isName 1 b && (isName 2 c && (isName 3 d && (isName 4 e && (isName 5 f && isName 6 g)))))
  | _ => false

def newF (r : Value) : List Value → Option Value
  | [.agg l] => bif isNames l.toList then some r else none
  | _ => none

def badExts : List (Nat × Ext) := [(27, .pure (newF (.pointer none))), (14, .pure (newF (.tuple #[.chan none, .bool false]))), (10, .pure livesF)]

noncomputable def gamB (fx : Nat → Option Obj) (σ : Nat → Value) : Cx := cxSym Tryz.prog badExts newsEqs fx σ (fun _ _ => none) (fun _ => none)

def names7 : Value := .agg #[.float .f32 0, .float .f32 1, .float .f32 2, .float .f32 3, .float .f32 4, .float .f32 5, .float .f32 6]

theorem bad_run (fx : Nat → Option Obj) (σ : Nat → Value) : isTrue (callF (gamB fx σ) 2000 200 true 3 [names7] (boot 100 [])) = true := by kernel_rfl

def σ7 (a b c d e f g : Int) (i : Nat) : Value := .int .i64 (match i with | 0 => a | 1 => b | 2 => c | 3 => d | 4 => e | 5 => f | _ => g)

theorem isName_eq {k : Nat} {v : Value} (h : isName k v = true) : v = .float .f32 k := by
  unfold isName at h
  split at h
  · split at h
    · rw [Nat.eq_of_beq_eq_true h]
    · cases h
  · cases h

theorem name_inv {ρ : Rho} {i : Nat} {u : Value} (h : VR ρ (.float .f32 i) u) : u = ρ.σ i := by
  cases h; rfl

theorem names_agg {ρ : Rho} {l : Array Value} {u : Value} {a b c d e f g : Int} (h : isNames l.toList = true) (hv : VR ρ (.agg l) u) (hσ : ρ.σ = σ7 a b c d e f g) : u = agg7 a b c d e f g := by
  obtain ⟨l⟩ := l
  have h : isNames l = true := h
  obtain ⟨l', rfl, hl⟩ := VR.agg_inv (l := l) hv
  unfold isNames at h
  split at h
  · simp only [Bool.and_eq_true] at h
    obtain ⟨h0, h1, h2, h3, h4, h5, h6⟩ := h
    obtain rfl := isName_eq h0
    obtain rfl := isName_eq h1
    obtain rfl := isName_eq h2
    obtain rfl := isName_eq h3
    obtain rfl := isName_eq h4
    obtain rfl := isName_eq h5
    obtain rfl := isName_eq h6
    obtain ⟨x0, r, rfl, g0, hl⟩ := hl.ex
    obtain ⟨x1, r, rfl, g1, hl⟩ := hl.ex
    obtain ⟨x2, r, rfl, g2, hl⟩ := hl.ex
    obtain ⟨x3, r, rfl, g3, hl⟩ := hl.ex
    obtain ⟨x4, r, rfl, g4, hl⟩ := hl.ex
    obtain ⟨x5, r, rfl, g5, hl⟩ := hl.ex
    obtain ⟨x6, r, rfl, g6, hl⟩ := hl.ex
    obtain rfl := hl.nil_ex
    rw [name_inv g0, name_inv g1, name_inv g2, name_inv g3, name_inv g4, name_inv g5, name_inv g6, hσ]
    rfl
  · cases h

variable {W : World} {a b c d e f g : Int}

set_option maxRecDepth 1000000 in
theorem newWAt (ha : In64 a) (hb : In64 b) (hc : In64 c) (hd : In64 d) (he : In64 e) (hf : In64 f) (hg : In64 g) (hbad : ¬ Good a b c d e f g) :
    ExtAt Tryz.prog (gamB (twoBlocks W) (σ7 a b c d e f g)) 27 (.pure (newF (.pointer none))) := by
  intro zs zs' v s s' ρ w hv wf pre hargs F hF
  simp only [extV, need_eq, lift_eq, Prod.mk.injEq] at hv
  obtain ⟨-, u, hu, rfl, rfl⟩ := hv
  unfold newF at hu
  split at hu
  · rename_i l
    cases hn : isNames l.toList with
    | false => rw [hn] at hu; cases hu
    | true =>
      rw [hn] at hu
      obtain rfl := Option.some.inj hu
      obtain ⟨x', r', rfl, hx, hr⟩ := hargs.ex
      obtain rfl := hr.nil_ex
      obtain rfl := names_agg hn hx pre.fix.val.val
      rw [enters Tryz.func27 (by kernel_rfl) (by kernel_rfl)]
      refine hF.calls (CallsIn.mono (callsIn_wide.2 (new_bad ha hb hc hd he hf hg hbad w)) ?_)
      rintro en w' ⟨rfl, hbel⟩
      exact ⟨_, ρ, rfl, .ptr0, Stp.below pre.inv hbel rfl⟩
  · cases hu

set_option maxRecDepth 1000000 in
theorem newRAt (ha : In64 a) (hb : In64 b) (hc : In64 c) (hd : In64 d) (he : In64 e) (hf : In64 f) (hg : In64 g) (hbad : ¬ Good a b c d e f g) :
    ExtAt Tryz.prog (gamB (twoBlocks W) (σ7 a b c d e f g)) 14 (.pure (newF (.tuple #[.chan none, .bool false]))) := by
  intro zs zs' v s s' ρ w hv wf pre hargs F hF
  simp only [extV, need_eq, lift_eq, Prod.mk.injEq] at hv
  obtain ⟨-, u, hu, rfl, rfl⟩ := hv
  unfold newF at hu
  split at hu
  · rename_i l
    cases hn : isNames l.toList with
    | false => rw [hn] at hu; cases hu
    | true =>
      rw [hn] at hu
      obtain rfl := Option.some.inj hu
      obtain ⟨x', r', rfl, hx, hr⟩ := hargs.ex
      obtain rfl := hr.nil_ex
      obtain rfl := names_agg hn hx pre.fix.val.val
      rw [enters Tryz.func14 (by kernel_rfl) (by kernel_rfl)]
      refine hF.calls (CallsIn.mono (callsIn_wide.2 (ref_bad ha hb hc hd he hf hg hbad w)) ?_)
      rintro en w' ⟨u, rfl, n1, n2, hbel⟩
      exact ⟨_, ρ, rfl, VR.tup' (l := [.chan none, .bool false]) (VRs.cons (.any u n1 n2) (VRs.cons (.bool _) (VRs.nil _))), Stp.below pre.inv hbel rfl⟩
  · cases hu

set_option maxRecDepth 1000000 in
theorem readyB (ht : Lib.TabIs Tryz.prog W "strings.asciiSpace" .u8 Lib.asciiSpaceTab) (hW : W.ShapedOpen Tryz.prog) (ha : In64 a) (hb : In64 b) (hc : In64 c) (hd : In64 d) (he : In64 e) (hf : In64 f) (hg : In64 g) (hbad : ¬ Good a b c d e f g) :
    Ready Tryz.prog (gamB (twoBlocks W) (σ7 a b c d e f g)) :=
  ⟨cxSym_ok _ _ _ _ _ _ _ eqsN (fun _ _ _ h => by cases h), mixed, extOk_of fun x y h => by
    have hm := findExt_mem (l := badExts) h
    simp only [badExts, List.mem_cons, Prod.mk.injEq, List.not_mem_nil, or_false] at hm
    rcases hm with ⟨rfl, rfl⟩ | ⟨rfl, rfl⟩ | ⟨rfl, rfl⟩
    · exact .inr (.inr (.inr (newWAt ha hb hc hd he hf hg hbad)))
    · exact .inr (.inr (.inr (newRAt ha hb hc hd he hf hg hbad)))
    · exact .inr (.inr (.inr (livesExt ht hW fun _ _ h => h))), names⟩

theorem name_VR {at_ : Nat → Option RB} {σ : Nat → Value} {i : Nat} {z : Int} (h : σ i = .int .i64 z) : VR ⟨at_, σ⟩ (.float .f32 i) (.int .i64 z) := by
  have := VR.name (ρ := ⟨at_, σ⟩) i (fun l e => by rw [show (⟨at_, σ⟩ : Rho).σ i = _ from h] at e; cases e) (fun l e => by rw [show (⟨at_, σ⟩ : Rho).σ i = _ from h] at e; cases e)
  rw [show (⟨at_, σ⟩ : Rho).σ i = _ from h] at this
  exact this

set_option maxRecDepth 1000000 in
/-- RunNews is true of limits of which some are not as they may be -/
theorem runNews_bad (ht : Lib.TabIs Tryz.prog W "strings.asciiSpace" .u8 Lib.asciiSpaceTab) (hW : W.ShapedOpen Tryz.prog) (ha : In64 a) (hb : In64 b) (hc : In64 c) (hd : In64 d) (he : In64 e) (hf : In64 f) (hg : In64 g) (hbad : ¬ Good a b c d e f g)
    (w : World) (hx : ∀ b o, twoBlocks W b = some o → w.heap[b]? = some o) : Calls Tryz.prog 3 #[agg7 a b c d e f g] w fun e w' => e = .returned (.bool true) ∧ Below w.heap.size w w' := by
  have h := bad_run (twoBlocks W) (σ7 a b c d e f g)
  cases hr : callF (gamB (twoBlocks W) (σ7 a b c d e f g)) 2000 200 true 3 [names7] (boot 100 []) with
  | none => rw [hr] at h; cases h
  | some p =>
    obtain ⟨u, s⟩ := p
    rw [hr] at h
    unfold isTrue at h
    split at h
    · rename_i bb s2 heq
      subst h
      obtain ⟨rfl, rfl⟩ : u = .bool true ∧ s = s2 := by
        have := Option.some.inj heq
        exact ⟨congrArg Prod.fst this, congrArg Prod.snd this⟩
      refine (call_new (readyB ht hW ha hb hc hd he hf hg hbad) (rounds := 2000) (k := 200) (n := 100) (by decide) (fun _ => rfl) rfl hr
        (VRs.cons (agg7_VR (name_VR rfl) (name_VR rfl) (name_VR rfl) (name_VR rfl) (name_VR rfl) (name_VR rfl) (name_VR rfl)) (VRs.nil _)) w hx).mono ?_
      rintro e w' ⟨u, rfl, hbel, hk⟩
      obtain ⟨-, ρ, hv, -⟩ := hk
      cases hv
      exact ⟨rfl, hbel⟩
    · cases h

end Go.Proofs.YtpoaiachllclhaaGreatDoor

/-
  RunNews answers true of all limits, by the evaluator. Conditions: what two variables of Go's library hold in the world of the start.
-/
import Derived.Test.YtpoaiachllclhaaGreatDoorNewsBad
import Derived.Test.YtpoaiachllclhaaGreatDoorNewsGoodA
import Derived.Test.YtpoaiachllclhaaGreatDoorNewsGoodB
import Derived.Test.YtpoaiachllclhaaGreatDoorNewsGoodC
import Derived.Test.YtpoaiachllclhaaGreatDoorNewsGoodD
namespace Go.Proofs.YtpoaiachllclhaaGreatDoor
open Go Go.Ideal Go.RowKit

theorem good_at (fx : Nat → Option Obj) {k : Nat} (h1 : 1 ≤ k) (h2 : k ≤ 64) : newsOk fx (limGood k) = true := by
  by_cases e1 : k = 1
  · subst e1; exact good1 fx
  by_cases e2 : k = 2
  · subst e2; exact good2 fx
  by_cases e3 : k = 3
  · subst e3; exact good3 fx
  by_cases e4 : k = 4
  · subst e4; exact good4 fx
  by_cases e5 : k = 5
  · subst e5; exact good5 fx
  by_cases e6 : k = 6
  · subst e6; exact good6 fx
  by_cases e7 : k = 7
  · subst e7; exact good7 fx
  by_cases e8 : k = 8
  · subst e8; exact good8 fx
  by_cases e9 : k = 9
  · subst e9; exact good9 fx
  by_cases e10 : k = 10
  · subst e10; exact good10 fx
  by_cases e11 : k = 11
  · subst e11; exact good11 fx
  by_cases e12 : k = 12
  · subst e12; exact good12 fx
  by_cases e13 : k = 13
  · subst e13; exact good13 fx
  by_cases e14 : k = 14
  · subst e14; exact good14 fx
  by_cases e15 : k = 15
  · subst e15; exact good15 fx
  by_cases e16 : k = 16
  · subst e16; exact good16 fx
  by_cases e17 : k = 17
  · subst e17; exact good17 fx
  by_cases e18 : k = 18
  · subst e18; exact good18 fx
  by_cases e19 : k = 19
  · subst e19; exact good19 fx
  by_cases e20 : k = 20
  · subst e20; exact good20 fx
  by_cases e21 : k = 21
  · subst e21; exact good21 fx
  by_cases e22 : k = 22
  · subst e22; exact good22 fx
  by_cases e23 : k = 23
  · subst e23; exact good23 fx
  by_cases e24 : k = 24
  · subst e24; exact good24 fx
  by_cases e25 : k = 25
  · subst e25; exact good25 fx
  by_cases e26 : k = 26
  · subst e26; exact good26 fx
  by_cases e27 : k = 27
  · subst e27; exact good27 fx
  by_cases e28 : k = 28
  · subst e28; exact good28 fx
  by_cases e29 : k = 29
  · subst e29; exact good29 fx
  by_cases e30 : k = 30
  · subst e30; exact good30 fx
  by_cases e31 : k = 31
  · subst e31; exact good31 fx
  by_cases e32 : k = 32
  · subst e32; exact good32 fx
  by_cases e33 : k = 33
  · subst e33; exact good33 fx
  by_cases e34 : k = 34
  · subst e34; exact good34 fx
  by_cases e35 : k = 35
  · subst e35; exact good35 fx
  by_cases e36 : k = 36
  · subst e36; exact good36 fx
  by_cases e37 : k = 37
  · subst e37; exact good37 fx
  by_cases e38 : k = 38
  · subst e38; exact good38 fx
  by_cases e39 : k = 39
  · subst e39; exact good39 fx
  by_cases e40 : k = 40
  · subst e40; exact good40 fx
  by_cases e41 : k = 41
  · subst e41; exact good41 fx
  by_cases e42 : k = 42
  · subst e42; exact good42 fx
  by_cases e43 : k = 43
  · subst e43; exact good43 fx
  by_cases e44 : k = 44
  · subst e44; exact good44 fx
  by_cases e45 : k = 45
  · subst e45; exact good45 fx
  by_cases e46 : k = 46
  · subst e46; exact good46 fx
  by_cases e47 : k = 47
  · subst e47; exact good47 fx
  by_cases e48 : k = 48
  · subst e48; exact good48 fx
  by_cases e49 : k = 49
  · subst e49; exact good49 fx
  by_cases e50 : k = 50
  · subst e50; exact good50 fx
  by_cases e51 : k = 51
  · subst e51; exact good51 fx
  by_cases e52 : k = 52
  · subst e52; exact good52 fx
  by_cases e53 : k = 53
  · subst e53; exact good53 fx
  by_cases e54 : k = 54
  · subst e54; exact good54 fx
  by_cases e55 : k = 55
  · subst e55; exact good55 fx
  by_cases e56 : k = 56
  · subst e56; exact good56 fx
  by_cases e57 : k = 57
  · subst e57; exact good57 fx
  by_cases e58 : k = 58
  · subst e58; exact good58 fx
  by_cases e59 : k = 59
  · subst e59; exact good59 fx
  by_cases e60 : k = 60
  · subst e60; exact good60 fx
  by_cases e61 : k = 61
  · subst e61; exact good61 fx
  by_cases e62 : k = 62
  · subst e62; exact good62 fx
  by_cases e63 : k = 63
  · subst e63; exact good63 fx
  by_cases e64 : k = 64
  · subst e64; exact good64 fx
  omega

variable {W : World}

theorem news_from (ht : Lib.TabIs Tryz.prog W "strings.asciiSpace" .u8 Lib.asciiSpaceTab) (hW : W.ShapedOpen Tryz.prog) {v v' : Value} (h : newsOk (twoBlocks W) v = true) (hv : ∀ ρ, VR ρ v v') (w : World) (hx : ∀ b o, twoBlocks W b = some o → w.heap[b]? = some o) :
    Calls Tryz.prog 3 #[v'] w fun e w' => e = .returned (.bool true) ∧ Below w.heap.size w w' := by
  unfold newsOk at h
  cases hr : callF (gamN (twoBlocks W)) 2000 200 true 3 [v] (boot 100 []) with
  | none => rw [hr] at h; cases h
  | some p =>
    obtain ⟨u, s⟩ := p
    rw [hr] at h
    unfold isTrue at h
    split at h
    · rename_i bb s2 heq
      subst h
      obtain ⟨rfl, rfl⟩ : u = .bool true ∧ s = s2 := by
        have := Option.some.inj heq
        exact ⟨congrArg Prod.fst this, congrArg Prod.snd this⟩
      refine (call_new (readyN ht hW) (rounds := 2000) (k := 200) (n := 100) (by decide) (fun _ => rfl) rfl hr (VRs.cons (hv _) (VRs.nil _)) w hx).mono ?_
      rintro e w' ⟨u, rfl, hbel, hk⟩
      obtain ⟨-, ρ, hv, -⟩ := hk
      cases hv
      exact ⟨rfl, hbel⟩
    · cases h

/-- RunNews is true, from whatever world in which the two variables stand as at the start -/
theorem runNews_any (ht : Lib.TabIs Tryz.prog W "strings.asciiSpace" .u8 Lib.asciiSpaceTab) (hW : W.ShapedOpen Tryz.prog) (a b c d e f g : Int) (ha : In64 a) (hb : In64 b) (hc : In64 c) (hd : In64 d) (he : In64 e) (hf : In64 f) (hg : In64 g)
    (w : World) (hx : ∀ b o, twoBlocks W b = some o → w.heap[b]? = some o) :
    Calls Tryz.prog 3 #[.agg #[.int .i64 a, .int .i64 b, .int .i64 c, .int .i64 d, .int .i64 e, .int .i64 f, .int .i64 g]] w fun e w' => e = .returned (.bool true) ∧ Below w.heap.size w w' := by
  by_cases hgood : Good a b c d e f g
  · obtain ⟨p1, p2, p3, p4, p5, p6, p7⟩ := hgood
    obtain ⟨k, rfl⟩ : ∃ k : Nat, b = k := ⟨b.toNat, by omega⟩
    have one : ∀ {ρ : Rho} {mn mx : Nat} {z : Int}, (mn : Int) ≤ z ∧ z ≤ mx → mx < 10000 → VR ρ (digSym mn mx 1) (.int .i64 z) := fun {ρ mn mx z} hz hm =>
      symI (lo := mn + 9223372036854775808) (hi := mx + 9223372036854775808) (by omega) (by omega) (by omega)
    exact news_from ht hW (good_at (twoBlocks W) (k := k) (by omega) (by omega)) (fun ρ => agg7_VR (one p1 (by omega)) (.int _ _) (one p3 (by omega)) (one p4 (by omega)) (one p5 (by omega)) (one p6 (by omega)) (one p7 (by omega))) w hx
  · exact runNews_bad ht hW ha hb hc hd he hf hg hgood w hx

end Go.Proofs.YtpoaiachllclhaaGreatDoor

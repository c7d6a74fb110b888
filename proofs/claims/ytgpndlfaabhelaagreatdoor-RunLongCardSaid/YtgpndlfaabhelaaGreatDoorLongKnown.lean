/-
  What world.New, kernel.Step (of a step by nobody) and Dump come to, by the evaluator, for all small limits. Conditions: none.
-/
import Derived.Test.YtgpndlfaabhelaaGreatDoorTop
import Derived.Test.YtgpndlfaabhelaaGreatDoorExt
import Derived.Test.YtgpndlfaabhelaaGreatDoorFacts
namespace Go.Proofs.YtgpndlfaabhelaaGreatDoor
open Go Go.Ideal Go.RowKit

noncomputable def gam0 : Cx := cxOf Tryz.prog [] [] (fun _ => none)

theorem ready0 : Ready Tryz.prog gam0 :=
  ⟨cxOf_ok _ _ _, mixed, extOk_of fun f e h => (by cases h), names⟩

def sym (lo hi : Nat) : Value := .complex .f64 (lo + 9223372036854775808) (hi + 9223372036854775808)

/-- limits of which that of descriptors is known -/
def limSym (fds : Nat) : Value := .agg #[sym 1 6, .int .i64 fds, sym 2 17, sym 2 13, sym 0 15, sym 1 20, sym 1 20]

@[reducible] def zeroStep : Value := .agg #[.int .i64 0, .int .i64 0, .int .i64 0, .int .i64 0, .int .i64 0, .int .i64 0, .int .i64 0, .string ByteArray.empty, .string ByteArray.empty, .slice none 0 0]

noncomputable def born (fds : Nat) : Option (Value × HS) := callF gam0 100 40 true 28 [limSym fds] (boot 100 [])

def isPtr : Value → Bool
  | .pointer (some _) => true
  | _ => false

def isAgg (n : Nat) : Value → Bool
  | .agg cs => Nat.beq cs.toList.length n && cs.toList.all flat
  | _ => false

def chkStep : Option (Value × HS) → Bool
  | some (r, s) => isAgg 5 r && noMarks s.wr
  | none => false

def chkDump : Option (Value × HS) → Bool
  | some (.agg cs, _) => Nat.beq cs.toList.length 12 && cs.toList.all cellOk
  | _ => false

noncomputable def chkBorn (fds : Nat) : Bool := match born fds with
  | some (v, s) => isPtr v && chkStep (callF gam0 100 40 true 14 [v, zeroStep] (clean s)) && chkDump (callF gam0 100 40 true 15 [v] (clean s))
  | none => false

theorem chk_all : (List.range 9).all (fun i => chkBorn (i + 2)) = true := by kernel_rfl

theorem born_of {i : Nat} (hi : i < 9) : ∃ v s, born (i + 2) = some (v, s) ∧ isPtr v = true ∧ chkStep (callF gam0 100 40 true 14 [v, zeroStep] (clean s)) = true ∧
    chkDump (callF gam0 100 40 true 15 [v] (clean s)) = true := by
  have h := List.all_eq_true.1 chk_all i (List.mem_range.2 hi)
  unfold chkBorn at h
  cases hb : born (i + 2) with
  | none => rw [hb] at h; cases h
  | some p =>
    obtain ⟨v, s⟩ := p
    rw [hb] at h
    simp only [Bool.and_eq_true] at h
    exact ⟨v, s, rfl, h.1.1, h.1.2, h.2⟩

/-- a world as it is born: u leads to it; what of it may be written lies from block M on, all of it below block N -/
def Live (M N : Nat) (w : World) (u : Value) : Prop := ∃ i v s, i < 9 ∧ born (i + 2) = some (v, s) ∧ Known gam0 (clean s) v M N w u

theorem Live.keep {M N : Nat} {w w' : World} {u : Value} (h : Live M N w u) (hb : ∀ b, b < N → w'.heap[b]? = w.heap[b]?) : Live M N w' u := by
  obtain ⟨i, v, s, h1, h2, h3⟩ := h
  exact ⟨i, v, s, h1, h2, h3.keep hb⟩

def Borne (w : World) (e : Ending) (w' : World) : Prop := ∃ a : Addr, e = .returned (.pointer (some a)) ∧ Below w.heap.size w w' ∧ Live w.heap.size w'.heap.size w' (.pointer (some a))

theorem isPtr_eq {v : Value} (h : isPtr v = true) : ∃ a, v = .pointer (some a) := by
  unfold isPtr at h
  split at h
  · exact ⟨_, rfl⟩
  · cases h

theorem sym_VR {ρ : Rho} {lo hi : Nat} {z : Int} (h1 : (lo : Int) ≤ z) (h2 : z ≤ hi) (h3 : hi < 1000000) : VR ρ (sym lo hi) (.int .i64 z) :=
  .sym _ _ _ (by omega) (by omega) (by omega)

theorem new_any (a b c d e f g : Int) (ha : 1 ≤ a ∧ a ≤ 6) (hb : 2 ≤ b ∧ b ≤ 10) (hc : 2 ≤ c ∧ c ≤ 17) (hd : 2 ≤ d ∧ d ≤ 13) (he : 0 ≤ e ∧ e ≤ 15) (hf : 1 ≤ f ∧ f ≤ 20) (hg : 1 ≤ g ∧ g ≤ 20) (w : World) :
    Calls Tryz.prog 28 #[.agg #[.int .i64 a, .int .i64 b, .int .i64 c, .int .i64 d, .int .i64 e, .int .i64 f, .int .i64 g]] w (Borne w) := by
  obtain ⟨i, rfl⟩ : ∃ i : Nat, b = ((i + 2 : Nat) : Int) := ⟨(b - 2).toNat, by omega⟩
  have hi : i < 9 := by omega
  obtain ⟨v, s, h1, h2, h3, h4⟩ := born_of hi
  obtain ⟨a', rfl⟩ := isPtr_eq h2
  have hl : VRs (fun _ => none) [limSym (i + 2)] [.agg #[.int .i64 a, .int .i64 ((i + 2 : Nat) : Int), .int .i64 c, .int .i64 d, .int .i64 e, .int .i64 f, .int .i64 g]] :=
    VRs.cons (VR.agg' (VRs.cons (sym_VR (by omega) (by omega) (by omega)) (VRs.cons (.int _ _) (VRs.cons (sym_VR (by omega) (by omega) (by omega)) (VRs.cons (sym_VR (by omega) (by omega) (by omega))
      (VRs.cons (sym_VR (by omega) (by omega) (by omega)) (VRs.cons (sym_VR (by omega) (by omega) (by omega)) (VRs.cons (sym_VR (by omega) (by omega) (by omega)) (VRs.nil _))))))))) (VRs.nil _)
  refine (call_new ready0 (rounds := 100) (k := 40) (n := 100) (by decide) rfl h1 hl w (fun _ _ h => by cases h)).mono ?_
  rintro e w' ⟨u, rfl, hbel, hk⟩
  have hu : ∃ x, u = .pointer (some x) := by
    obtain ⟨-, ρ, hv, -⟩ := hk
    cases hv
    exact ⟨_, rfl⟩
  obtain ⟨x, rfl⟩ := hu
  exact ⟨x, rfl, hbel, i, _, s, hi, h1, clean_wf hk.wf, hk.ex⟩

def Stepped (M N : Nat) (w : World) (u : Value) (e : Ending) (w' : World) : Prop :=
  ∃ c0 c1 c2 c3 c4 : Value, e = .returned (.agg #[c0, c1, c2, c3, c4]) ∧ (∀ x ∈ [c0, c1, c2, c3, c4], x.oneCell' = true) ∧ Below M w w' ∧ Live M N w' u ∧ ∀ b, N ≤ b → b < w.heap.size → w'.heap[b]? = w.heap[b]?

theorem flat_one {v : Value} (h : flat v = true) : v.oneCell' = true := by
  cases v <;> first | rfl | (simp [flat] at h)

theorem step_any {M N : Nat} {w : World} {u : Value} (h : Live M N w u) (hM : M ≤ w.heap.size) : Calls Tryz.prog 14 #[u, zeroStep] w (Stepped M N w u) := by
  obtain ⟨i, v, s, hi, h1, hk⟩ := h
  obtain ⟨v', s', g1, -, g3, -⟩ := born_of hi
  rw [h1] at g1
  obtain ⟨rfl, rfl⟩ : v = v' ∧ s = s' := by
    have := Option.some.inj g1
    exact ⟨congrArg Prod.fst this, congrArg Prod.snd this⟩
  cases hr : callF gam0 100 40 true 14 [v, zeroStep] (clean s) with
  | none => rw [hr] at g3; cases g3
  | some p =>
    obtain ⟨r, s2⟩ := p
    rw [hr] at g3
    simp only [chkStep, Bool.and_eq_true] at g3
    obtain ⟨q1, q2⟩ := g3
    have hsame := run_same (s := clean s) (Loc.callF (Γ := gam0) 100 40 true _ _) hr hk.wf q2
    refine (call_known ready0 (fun _ => rfl) rfl hr (fun a ha => by rw [List.mem_singleton] at ha; subst ha; rfl) hk hM).mono ?_
    rintro e w' ⟨r', ρ', rfl, hv, hbel, hfr, hlive⟩
    unfold isAgg at q1
    split at q1
    · rename_i cs
      rw [Bool.and_eq_true] at q1
      have e := plainConst_eq (v := .agg cs) q1.2 hv
      subst e
      have hl := Nat.eq_of_beq_eq_true q1.1
      obtain ⟨l⟩ := cs
      match l, hl, q1.2 with
      | [c0, c1, c2, c3, c4], _, hall =>
        exact ⟨c0, c1, c2, c3, c4, rfl, fun x hx => flat_one (List.all_eq_true.1 hall x hx), hbel, ⟨i, v, s, hi, h1, hlive hsame⟩, hfr⟩
    · cases q1

def Dumped (M N : Nat) (w : World) (e : Ending) (w' : World) : Prop :=
  ∃ c0 c1 c2 c3 c4 c5 c6 c7 c8 c9 c10 c11 : Value, e = .returned (.agg #[c0, c1, c2, c3, c4, c5, c6, c7, c8, c9, c10, c11]) ∧ (∀ x ∈ [c0, c1, c2, c3, c4, c5, c6, c7, c8, c9, c10, c11], x.oneCell' = true) ∧ Below M w w' ∧
    ∀ b, N ≤ b → b < w.heap.size → w'.heap[b]? = w.heap[b]?

theorem one_of {v : Value} (h : (∀ l, v ≠ .agg l) ∧ ∀ l, v ≠ .tuple l) : v.oneCell' = true := by
  cases v <;> first | rfl | exact absurd rfl (h.1 _) | exact absurd rfl (h.2 _)

theorem dump_any {M N : Nat} {w : World} {u : Value} (h : Live M N w u) (hM : M ≤ w.heap.size) : Calls Tryz.prog 15 #[u] w (Dumped M N w) := by
  obtain ⟨i, v, s, hi, h1, hk⟩ := h
  obtain ⟨v', s', g1, -, -, g4⟩ := born_of hi
  rw [h1] at g1
  obtain ⟨rfl, rfl⟩ : v = v' ∧ s = s' := by
    have := Option.some.inj g1
    exact ⟨congrArg Prod.fst this, congrArg Prod.snd this⟩
  cases hr : callF gam0 100 40 true 15 [v] (clean s) with
  | none => rw [hr] at g4; cases g4
  | some p =>
    obtain ⟨r, s2⟩ := p
    rw [hr] at g4
    unfold chkDump at g4
    split at g4
    · rename_i cs s3 heq
      obtain ⟨rfl, rfl⟩ : r = .agg cs ∧ s2 = s3 := by
        have := Option.some.inj heq
        exact ⟨congrArg Prod.fst this, congrArg Prod.snd this⟩
      refine (call_known ready0 (fun _ => rfl) rfl hr (fun a ha => by cases ha) hk hM).mono ?_
      rintro e w' ⟨r', ρ', rfl, hv, hbel, hfr, -⟩
      rw [Bool.and_eq_true] at g4
      have hl := Nat.eq_of_beq_eq_true g4.1
      cases hv with
      | agg l l' e1 e2 =>
        have hl' : l'.length = 12 := by rw [← e1]; simpa using hl
        have hall : ∀ x ∈ l', x.oneCell' = true := by
          intro x hx
          obtain ⟨j, hj, rfl⟩ := List.mem_iff_getElem.1 hx
          have hj2 : j < l.length := by omega
          exact one_of (VR.notAgg (List.all_eq_true.1 g4.2 l[j] (by simp)) (e2 j _ _ (List.getElem?_eq_getElem hj2) (List.getElem?_eq_getElem hj)))
        match l', hl', hall with
        | [c0, c1, c2, c3, c4, c5, c6, c7, c8, c9, c10, c11], _, hall => exact ⟨c0, c1, c2, c3, c4, c5, c6, c7, c8, c9, c10, c11, rfl, hall, hbel, hfr⟩
    · cases g4

end Go.Proofs.YtgpndlfaabhelaaGreatDoor

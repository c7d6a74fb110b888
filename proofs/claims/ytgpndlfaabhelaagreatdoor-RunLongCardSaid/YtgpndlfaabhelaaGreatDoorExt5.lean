/-
  A text that is split at a byte, as the kit's law has it. Conditions: none.
-/
import Derived.Test.YtgpndlfaabhelaaGreatDoorExt4
import Derived.Lib.Split
namespace Go.Ideal
open Go

theorem prefix_one (c b : UInt8) (l : List UInt8) : [c].isPrefixOf (b :: l) = Nat.beq b.toNat c.toNat := by
  simp only [List.isPrefixOf, Bool.and_true]
  rw [Bool.eq_iff_iff, beq_iff_eq]
  constructor
  · rintro rfl; exact Nat.beq_refl _
  · intro h; exact (UInt8.toNat_inj.1 (Nat.eq_of_beq_eq_true h)).symm

theorem splitGo_cut (c : UInt8) : ∀ (l cur : List UInt8), (Lib.index l [c] = -1 ∧ splitGo c.toNat l cur = [cur ++ l]) ∨
    ∃ i : Nat, Lib.index l [c] = i ∧ i < l.length ∧ splitGo c.toNat l cur = (cur ++ l.take i) :: splitGo c.toNat (l.drop (i + 1)) [] := by
  intro l
  induction l with
  | nil => intro cur; exact .inl ⟨rfl, by simp [splitGo]⟩
  | cons b l ih =>
    intro cur
    simp only [splitGo, Lib.index, prefix_one]
    cases hb : Nat.beq b.toNat c.toNat with
    | true => exact .inr ⟨0, by simp, by simp, by simp⟩
    | false =>
      simp only [cond_false, Bool.false_eq_true, if_false]
      rcases ih (cur ++ [b]) with ⟨h1, h2⟩ | ⟨i, h1, h2, h3⟩
      · exact .inl ⟨by rw [h1]; rfl, by rw [h2]; simp⟩
      · refine .inr ⟨i + 1, ?_, by simp; omega, ?_⟩
        · have hn : ¬ (Lib.index l [c] == -1) = true := fun e => by have := beq_iff_eq.1 e; omega
          rw [if_neg hn, h1]; rfl
        · rw [h3]; simp

theorem split_eq (c : UInt8) : ∀ (n : Nat) (s : List UInt8), s.length ≤ n → Lib.splitK [c] 0 (Lib.count s [c]) s = splitGo c.toNat s [] ∧ (splitGo c.toNat s []).length = Lib.count s [c] + 1 := by
  intro n
  induction n with
  | zero =>
    intro s hs
    obtain rfl : s = [] := List.length_eq_zero_iff.1 (by omega)
    have h : Lib.index ([] : List UInt8) [c] = -1 := rfl
    rw [Lib.count_miss h]
    exact ⟨rfl, rfl⟩
  | succ n ih =>
    intro s hs
    rcases splitGo_cut c s [] with ⟨h1, h2⟩ | ⟨i, h1, h2, h3⟩
    · rw [Lib.count_miss h1, h2]
      exact ⟨rfl, rfl⟩
    · rw [Lib.count_hit (by simp) h1, h3, Nat.add_comm 1]
      have hl : (s.drop (i + [c].length)).length ≤ n := by simp; omega
      obtain ⟨g1, g2⟩ := ih _ hl
      have hn : ¬ (Lib.index s [c] == -1) = true := fun e => by have := beq_iff_eq.1 e; omega
      have e : (Lib.index s [c]).toNat = i := by omega
      rw [Lib.splitK, if_neg hn, e, g1]
      exact ⟨by simp, congrArg (· + 1) g2⟩

theorem splitB_eq (s sep : ByteArray) (c : UInt8) (h : sep.data.toList = [c]) :
    ((Lib.splitB sep 0 (Lib.countB s sep) s).map Value.string) = (splitGo c.toNat s.data.toList []).map (fun x => Value.string ⟨x.toArray⟩) ∧ (splitGo c.toNat s.data.toList []).length = Lib.countB s sep + 1 := by
  have e : Lib.countB s sep = Lib.count s.data.toList [c] := by rw [← h]
  obtain ⟨g1, g2⟩ := split_eq c _ s.data.toList (Nat.le_refl _)
  have d := Lib.splitB_data sep 0 (Lib.countB s sep) s
  rw [h, e, g1] at d
  rw [e]
  refine ⟨?_, g2⟩
  rw [← d, List.map_map]
  rfl

end Go.Ideal

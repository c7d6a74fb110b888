/-
  RunNews: with which limits there can be a script at all: the statement and its tied card. Conditions: none but the row's own (what the listed package variables hold, tied by the card to the program's text).
-/
import Derived.Test.YtpoaiachllclhaaGreatDoorCards
import Derived.Test.YtpoaiachllclhaaGreatDoorMyTie
import Derived.Test.YtpoaiachllclhaaGreatDoorDoneA
import Derived.Test.YtpoaiachllclhaaGreatDoorDoneC
import Derived.Test.YtpoaiachllclhaaGreatDoorDoneG
import Derived.Test.YtpoaiachllclhaaGreatDoorDoneH
import Derived.SevenTiedAt
namespace Go.Proofs.YtpoaiachllclhaaGreatDoor.runNews
open Go Go.ChangeShapes Go.WideShapes Go.ChangeAt Go.RowKit

theorem startLaid (os : Os) : laidMetH Tryz.prog Rows.runNewsRow.laid (start os).memory := by
  rw [MakeChecks.laidMetH_plain _ _ _ laid0]
  exact laidMet_laidAll _ (laid1 os) (laid2 os)

set_option maxRecDepth 100000 in
theorem lifted (os : Os) (started : os.Started) (H : Type) (enc : TypeId × Value → H) (F : Stop.Interp) :
    ReturnsInHanded {} Tryz.checked os 3 .any ((OpenSpec.ofChange Rows.runNewsSpec).preRow enc Tryz.prog Tryz.f3 Rows.runNewsRow.domain false Rows.runNewsRow.laid)
      (((OpenSpec.ofChange Rows.runNewsSpec).at F).post enc Tryz.prog Tryz.f3 false true false false) := by
  obtain ⟨places, hx⟩ := startReads os enc
  refine returnsInHanded_of_row (C := Tryz.checked) (s := OpenSpec.ofChange Rows.runNewsSpec) own started (by kernel_rfl) Tryz.func3
    ⟨World.laidAll Tryz.prog os Rows.runNewsRow.laid, fun _ _ => 0, ⟨#[], inp, []⟩, World.laidAll_os _ _ _, World.shaped_of_ZipB (shape1 os) (shape2 os), (Input.okWide_of_okWideB (base := 0) (startOk os)).1, (Input.okWide_of_okWideB (startOk os)).2,
      OpenSpec.preRow_of_cond 8 hx (by kernel_rfl) (fun k hk => by cases hk) (startSized os enc) (startLaid os), by
        simp only [Assume.holds]
        exact ⟨by simp, by simp, fun _ => Modest.zero, by simp, by simp⟩⟩ ?_
  intro W base args ds gs before hval hW _ _ _ hL hS _
  exact contract H enc W base args ds gs before hval hW hL hS

theorem said : Rows.RunNewsSaid :=
  OpenClaim.holds_of_cond 3 Tryz.f3 rfl rfl rfl rfl rfl rfl rfl ⟨rfl, rfl, rfl, rfl, rfl⟩ rfl rfl rfl rfl rfl named Tryz.func3 facts
    (of_decide_eq_true (by kernel_rfl)) (by unfold Func.isWrapper; first | (rw [if_pos (by decide +kernel)]; kernel_rfl) | (rw [if_neg (by decide +kernel)]; exact ⟨rfl, rfl⟩))
    (fun os started H enc _ F => by rw [OpenClaim.pre_eq_preRow]; exact lifted os started H enc F)

end Go.Proofs.YtpoaiachllclhaaGreatDoor.runNews
namespace Go.Proofs.YtpoaiachllclhaaGreatDoor
open Go

/-- ████ THE CARD ████ -/
theorem runNews_card : Rows.RunNewsCardSaid :=
  Claim7.holds_tied_plain_at .later [] _ _ _ _ runNews.said (fun _ h => by cases h) runNews.cardW (fun _ h => by cases h) rowTie rfl ⟨rfl, rfl⟩ runNews.cardM rfl runNews.plain runNews.cardG
#print axioms runNews_card

end Go.Proofs.YtpoaiachllclhaaGreatDoor

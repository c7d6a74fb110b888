/-
  DERIVED. GIVEN WITH THE SEED: THE CARDS: each row of YtpoaiachllclhaaGreatDoorRows.lean that lists a variable, with what it lists TIED to the program's text (the seventh form; the later family's looks); each row that meets fmt, with fmt's text TOLD by the authors' own Lean function (tested against real Go, not proved from fmt's source: count such statements apart). THE CARD IS WHAT COUNTS. Prove the row's statement (the work); the ties are given (YtpoaiachllclhaaGreatDoorTie.lean); close each card by the builder's one call (the guide's Derived/Test/ToyasCard.lean, 'card_holds'). Laid BY PROGRAM, IN A SANDBOX (cutbox-door.mjs). By AI agents, Wed Nov 11 2026. No macro, syntax, notation, axiom, sorry.
-/
import Derived.Test.YtpoaiachllclhaaGreatDoorRows
import GoSem.ClaimSeven
namespace Go.Proofs.YtpoaiachllclhaaGreatDoor
namespace Rows

/-- THE TIED CARD OF 'purlieulaw25.RunNews'. -/
def runNewsCard : Claim7 := { stood := { row := runNewsRow, standIns := [], harness := (true, "f9f4499fa72651cd2dca790b5ec44fde53d238bb8d9f729439974b98a2db6151"), looks := false }, kinds := [], alts := [], laidByText := true, laidKinds := [.pinned, .data, .data, .listed], laidTests := true, laidLooks := .later }
def RunNewsCardSaid : Prop := Claim7.holds Tryz.pinned (.plain (OpenSpec.ofChange runNewsSpec)) runNewsCard

/-- THE SECOND FORM's CARD OF 'purlieulaw25.RunNews'. -/
def runNewsUptoCard : Claim7 := { stood := { row := runNewsUptoRow, standIns := [], harness := (true, "f9f4499fa72651cd2dca790b5ec44fde53d238bb8d9f729439974b98a2db6151"), looks := false }, kinds := [], alts := [], laidByText := true, laidKinds := [.pinned, .data, .data, .listed], laidTests := true, laidLooks := .later }
def RunNewsUptoCardSaid : Prop := Claim7.holds Tryz.pinned (.plain (OpenSpec.upto runNewsSpec)) runNewsUptoCard
end Rows
end Go.Proofs.YtpoaiachllclhaaGreatDoor

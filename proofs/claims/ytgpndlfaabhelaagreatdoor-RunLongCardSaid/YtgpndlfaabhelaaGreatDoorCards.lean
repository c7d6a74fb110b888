/-
  DERIVED. GIVEN WITH THE SEED: THE CARDS: each row of YtgpndlfaabhelaaGreatDoorRows.lean that lists a variable, with what it lists TIED to the program's text (the seventh form; the later family's looks); each row that meets fmt, with fmt's text TOLD by the authors' own Lean function (tested against real Go, not proved from fmt's source: count such statements apart). THE CARD IS WHAT COUNTS. Prove the row's statement (the work); the ties are given (YtgpndlfaabhelaaGreatDoorTie.lean); close each card by the builder's one call (the guide's Derived/Test/ToyasCard.lean, 'card_holds'). Laid BY PROGRAM, IN A SANDBOX (cutbox-door.mjs). By AI agents, Wed Nov 11 2026. No macro, syntax, notation, axiom, sorry.
-/
import Derived.Test.YtgpndlfaabhelaaGreatDoorRows
import GoSem.ClaimSeven
namespace Go.Proofs.YtgpndlfaabhelaaGreatDoor
namespace Rows

/-- THE TIED CARD OF 'purlieulaw25.RunLong'. -/
def runLongCard : Claim7 := { stood := { row := runLongRow, standIns := [], harness := (true, "85c83e5d00004425008e72773790889a37c5f18a1315968fd9b8a4fe6de0e047"), looks := false }, kinds := [], alts := [], laidByText := true, laidKinds := [.pinned, .data, .data, .listed], laidTests := true, laidLooks := .later }
def RunLongCardSaid : Prop := Claim7.holds Tryz.pinned (.plain (OpenSpec.ofChange runLongSpec)) runLongCard

/-- THE TIED CARD OF 'purlieulaw25.RunNews'. -/
def runNewsCard : Claim7 := { stood := { row := runNewsRow, standIns := [], harness := (true, "85c83e5d00004425008e72773790889a37c5f18a1315968fd9b8a4fe6de0e047"), looks := false }, kinds := [], alts := [], laidByText := true, laidKinds := [.pinned, .data, .data, .listed], laidTests := true, laidLooks := .later }
def RunNewsCardSaid : Prop := Claim7.holds Tryz.pinned (.plain (OpenSpec.ofChange runNewsSpec)) runNewsCard

/-- THE SECOND FORM's CARD OF 'purlieulaw25.RunLong'. -/
def runLongUptoCard : Claim7 := { stood := { row := runLongUptoRow, standIns := [], harness := (true, "85c83e5d00004425008e72773790889a37c5f18a1315968fd9b8a4fe6de0e047"), looks := false }, kinds := [], alts := [], laidByText := true, laidKinds := [.pinned, .data, .data, .listed], laidTests := true, laidLooks := .later }
def RunLongUptoCardSaid : Prop := Claim7.holds Tryz.pinned (.plain (OpenSpec.upto runLongSpec)) runLongUptoCard

/-- THE SECOND FORM's CARD OF 'purlieulaw25.RunNews'. -/
def runNewsUptoCard : Claim7 := { stood := { row := runNewsUptoRow, standIns := [], harness := (true, "85c83e5d00004425008e72773790889a37c5f18a1315968fd9b8a4fe6de0e047"), looks := false }, kinds := [], alts := [], laidByText := true, laidKinds := [.pinned, .data, .data, .listed], laidTests := true, laidLooks := .later }
def RunNewsUptoCardSaid : Prop := Claim7.holds Tryz.pinned (.plain (OpenSpec.upto runNewsSpec)) runNewsUptoCard
end Rows
end Go.Proofs.YtgpndlfaabhelaaGreatDoor

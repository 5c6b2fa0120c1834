/-
  DERIVED. GIVEN WITH THE SEED: THE CARDS: each row of YtejlpdbiacmfcaaGreatDoorRows.lean that lists a variable, with what it lists TIED to the program's text (the seventh form; the later family's looks); each row that meets fmt, with fmt's text TOLD by the authors' own Lean function (tested against real Go, not proved from fmt's source: count such statements apart). THE CARD IS WHAT COUNTS. Prove the row's statement (the work); the ties are given (YtejlpdbiacmfcaaGreatDoorTie.lean); close each card by the builder's one call (the guide's Derived/Test/ToyasCard.lean, 'card_holds'). Laid BY PROGRAM, IN A SANDBOX (cutbox-door.mjs). By AI agents, Wed Nov 11 2026. No macro, syntax, notation, axiom, sorry.
-/
import Derived.Test.YtejlpdbiacmfcaaGreatDoorRows
import GoSem.ClaimSeven
namespace Go.Proofs.YtejlpdbiacmfcaaGreatDoor
namespace Rows

/-- THE TIED CARD OF 'privhouselaw28.MatrixNames'. -/
def matrixNamesCard : Claim7 := { stood := { row := matrixNamesRow, standIns := [], harness := (true, "ab8aff006ba353bd87fd88c6f69e627c47eac52b4bdf7bfa15c0fe0d574a20f7"), looks := true }, kinds := [], alts := [], laidByText := true, laidKinds := [.data, .data, .data, .data, .sentinel, .sentinel, .pinned], laidTests := true, laidLooks := .later }
def MatrixNamesCardSaid : Prop := Claim7.holds Tryz.pinned (.plain (OpenSpec.ofChange matrixNamesSpec)) matrixNamesCard

/-- THE TIED CARD OF 'privhouselaw28.MatrixExact'. -/
def matrixExactCard : Claim7 := { stood := { row := matrixExactRow, standIns := [], harness := (true, "ab8aff006ba353bd87fd88c6f69e627c47eac52b4bdf7bfa15c0fe0d574a20f7"), looks := true }, kinds := [], alts := [], laidByText := true, laidKinds := [.data, .data, .data, .data, .sentinel, .sentinel, .pinned], laidTests := true, laidLooks := .later }
def MatrixExactCardSaid : Prop := Claim7.holds Tryz.pinned (.plain (OpenSpec.ofChange matrixExactSpec)) matrixExactCard

/-- THE TIED CARD OF 'privhouselaw28.MatrixLinear'. -/
def matrixLinearCard : Claim7 := { stood := { row := matrixLinearRow, standIns := [], harness := (true, "ab8aff006ba353bd87fd88c6f69e627c47eac52b4bdf7bfa15c0fe0d574a20f7"), looks := true }, kinds := [], alts := [], laidByText := true, laidKinds := [.data, .data, .data, .data, .sentinel, .sentinel, .pinned], laidTests := true, laidLooks := .later }
def MatrixLinearCardSaid : Prop := Claim7.holds Tryz.pinned (.plain (OpenSpec.ofChange matrixLinearSpec)) matrixLinearCard

/-- THE TIED CARD OF 'privhouselaw28.MatrixSpreads'. -/
def matrixSpreadsCard : Claim7 := { stood := { row := matrixSpreadsRow, standIns := [], harness := (true, "ab8aff006ba353bd87fd88c6f69e627c47eac52b4bdf7bfa15c0fe0d574a20f7"), looks := true }, kinds := [], alts := [], laidByText := true, laidKinds := [.data, .data, .data, .data, .sentinel, .sentinel, .pinned], laidTests := true, laidLooks := .later }
def MatrixSpreadsCardSaid : Prop := Claim7.holds Tryz.pinned (.plain (OpenSpec.ofChange matrixSpreadsSpec)) matrixSpreadsCard

/-- THE TIED CARD OF 'privhouselaw28.MatrixAnswers'. -/
def matrixAnswersCard : Claim7 := { stood := { row := matrixAnswersRow, standIns := [], harness := (true, "ab8aff006ba353bd87fd88c6f69e627c47eac52b4bdf7bfa15c0fe0d574a20f7"), looks := true }, kinds := [], alts := [], laidByText := true, laidKinds := [.data, .data, .data, .data, .sentinel, .sentinel, .pinned], laidTests := true, laidLooks := .later }
def MatrixAnswersCardSaid : Prop := Claim7.holds Tryz.pinned (.plain (OpenSpec.ofChange matrixAnswersSpec)) matrixAnswersCard

/-- THE TIED CARD OF 'privhouselaw28.MatrixRows'. -/
def matrixRowsCard : Claim7 := { stood := { row := matrixRowsRow, standIns := [], harness := (true, "ab8aff006ba353bd87fd88c6f69e627c47eac52b4bdf7bfa15c0fe0d574a20f7"), looks := true }, kinds := [], alts := [], laidByText := true, laidKinds := [.data, .data, .data, .data, .sentinel, .sentinel, .pinned], laidTests := true, laidLooks := .later }
def MatrixRowsCardSaid : Prop := Claim7.holds Tryz.pinned (.plain (OpenSpec.ofChange matrixRowsSpec)) matrixRowsCard

/-- THE SECOND FORM's CARD OF 'privhouselaw28.MatrixNames'. -/
def matrixNamesUptoCard : Claim7 := { stood := { row := matrixNamesUptoRow, standIns := [], harness := (true, "ab8aff006ba353bd87fd88c6f69e627c47eac52b4bdf7bfa15c0fe0d574a20f7"), looks := true }, kinds := [], alts := [], laidByText := true, laidKinds := [.data, .data, .data, .data, .sentinel, .sentinel, .pinned], laidTests := true, laidLooks := .later }
def MatrixNamesUptoCardSaid : Prop := Claim7.holds Tryz.pinned (.plain (OpenSpec.upto matrixNamesSpec)) matrixNamesUptoCard

/-- THE SECOND FORM's CARD OF 'privhouselaw28.MatrixExact'. -/
def matrixExactUptoCard : Claim7 := { stood := { row := matrixExactUptoRow, standIns := [], harness := (true, "ab8aff006ba353bd87fd88c6f69e627c47eac52b4bdf7bfa15c0fe0d574a20f7"), looks := true }, kinds := [], alts := [], laidByText := true, laidKinds := [.data, .data, .data, .data, .sentinel, .sentinel, .pinned], laidTests := true, laidLooks := .later }
def MatrixExactUptoCardSaid : Prop := Claim7.holds Tryz.pinned (.plain (OpenSpec.upto matrixExactSpec)) matrixExactUptoCard

/-- THE SECOND FORM's CARD OF 'privhouselaw28.MatrixLinear'. -/
def matrixLinearUptoCard : Claim7 := { stood := { row := matrixLinearUptoRow, standIns := [], harness := (true, "ab8aff006ba353bd87fd88c6f69e627c47eac52b4bdf7bfa15c0fe0d574a20f7"), looks := true }, kinds := [], alts := [], laidByText := true, laidKinds := [.data, .data, .data, .data, .sentinel, .sentinel, .pinned], laidTests := true, laidLooks := .later }
def MatrixLinearUptoCardSaid : Prop := Claim7.holds Tryz.pinned (.plain (OpenSpec.upto matrixLinearSpec)) matrixLinearUptoCard

/-- THE SECOND FORM's CARD OF 'privhouselaw28.MatrixSpreads'. -/
def matrixSpreadsUptoCard : Claim7 := { stood := { row := matrixSpreadsUptoRow, standIns := [], harness := (true, "ab8aff006ba353bd87fd88c6f69e627c47eac52b4bdf7bfa15c0fe0d574a20f7"), looks := true }, kinds := [], alts := [], laidByText := true, laidKinds := [.data, .data, .data, .data, .sentinel, .sentinel, .pinned], laidTests := true, laidLooks := .later }
def MatrixSpreadsUptoCardSaid : Prop := Claim7.holds Tryz.pinned (.plain (OpenSpec.upto matrixSpreadsSpec)) matrixSpreadsUptoCard

/-- THE SECOND FORM's CARD OF 'privhouselaw28.MatrixAnswers'. -/
def matrixAnswersUptoCard : Claim7 := { stood := { row := matrixAnswersUptoRow, standIns := [], harness := (true, "ab8aff006ba353bd87fd88c6f69e627c47eac52b4bdf7bfa15c0fe0d574a20f7"), looks := true }, kinds := [], alts := [], laidByText := true, laidKinds := [.data, .data, .data, .data, .sentinel, .sentinel, .pinned], laidTests := true, laidLooks := .later }
def MatrixAnswersUptoCardSaid : Prop := Claim7.holds Tryz.pinned (.plain (OpenSpec.upto matrixAnswersSpec)) matrixAnswersUptoCard

/-- THE SECOND FORM's CARD OF 'privhouselaw28.MatrixRows'. -/
def matrixRowsUptoCard : Claim7 := { stood := { row := matrixRowsUptoRow, standIns := [], harness := (true, "ab8aff006ba353bd87fd88c6f69e627c47eac52b4bdf7bfa15c0fe0d574a20f7"), looks := true }, kinds := [], alts := [], laidByText := true, laidKinds := [.data, .data, .data, .data, .sentinel, .sentinel, .pinned], laidTests := true, laidLooks := .later }
def MatrixRowsUptoCardSaid : Prop := Claim7.holds Tryz.pinned (.plain (OpenSpec.upto matrixRowsSpec)) matrixRowsUptoCard
end Rows
end Go.Proofs.YtejlpdbiacmfcaaGreatDoor

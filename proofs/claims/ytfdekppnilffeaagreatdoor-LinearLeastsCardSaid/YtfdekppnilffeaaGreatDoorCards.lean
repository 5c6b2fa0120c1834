/-
  DERIVED. GIVEN WITH THE SEED: THE CARDS: each row of YtfdekppnilffeaaGreatDoorRows.lean that lists a variable, with what it lists TIED to the program's text (the seventh form; the later family's looks); each row that meets fmt, with fmt's text TOLD by the authors' own Lean function (tested against real Go, not proved from fmt's source: count such statements apart). THE CARD IS WHAT COUNTS. Prove the row's statement (the work); the ties are given (YtfdekppnilffeaaGreatDoorTie.lean); close each card by the builder's one call (the guide's Derived/Test/ToyasCard.lean, 'card_holds'). Laid BY PROGRAM, IN A SANDBOX (cutbox-door.mjs). By AI agents, Wed Nov 11 2026. No macro, syntax, notation, axiom, sorry.
-/
import Derived.Test.YtfdekppnilffeaaGreatDoorRows
import GoSem.ClaimSeven
namespace Go.Proofs.YtfdekppnilffeaaGreatDoor
namespace Rows

/-- THE TIED CARD OF 'privhouselaw27.LinearSolves'. -/
def linearSolvesCard : Claim7 := { stood := { row := linearSolvesRow, standIns := [], harness := (true, "7b40393ae7ea6150a38bf23e106066f50c31ac79be08720f923f5ff13aa1a062"), looks := true }, kinds := [], alts := [], laidByText := true, laidKinds := [.data, .data, .data, .data, .sentinel, .sentinel, .pinned], laidTests := true, laidLooks := .later }
def LinearSolvesCardSaid : Prop := Claim7.holds Tryz.pinned (.plain (OpenSpec.ofChange linearSolvesSpec)) linearSolvesCard

/-- THE TIED CARD OF 'privhouselaw27.LinearLeasts'. -/
def linearLeastsCard : Claim7 := { stood := { row := linearLeastsRow, standIns := [], harness := (true, "7b40393ae7ea6150a38bf23e106066f50c31ac79be08720f923f5ff13aa1a062"), looks := true }, kinds := [], alts := [], laidByText := true, laidKinds := [.data, .data, .data, .data, .sentinel, .sentinel, .pinned], laidTests := true, laidLooks := .later }
def LinearLeastsCardSaid : Prop := Claim7.holds Tryz.pinned (.plain (OpenSpec.ofChange linearLeastsSpec)) linearLeastsCard

/-- THE TIED CARD OF 'privhouselaw27.LinearProducts'. -/
def linearProductsCard : Claim7 := { stood := { row := linearProductsRow, standIns := [], harness := (true, "7b40393ae7ea6150a38bf23e106066f50c31ac79be08720f923f5ff13aa1a062"), looks := true }, kinds := [], alts := [], laidByText := true, laidKinds := [.data, .data, .data, .data, .sentinel, .sentinel, .pinned], laidTests := true, laidLooks := .later }
def LinearProductsCardSaid : Prop := Claim7.holds Tryz.pinned (.plain (OpenSpec.ofChange linearProductsSpec)) linearProductsCard

/-- THE TIED CARD OF 'privhouselaw27.LinearRanks'. -/
def linearRanksCard : Claim7 := { stood := { row := linearRanksRow, standIns := [], harness := (true, "7b40393ae7ea6150a38bf23e106066f50c31ac79be08720f923f5ff13aa1a062"), looks := true }, kinds := [], alts := [], laidByText := true, laidKinds := [.data, .data, .data, .data, .sentinel, .sentinel, .pinned], laidTests := true, laidLooks := .later }
def LinearRanksCardSaid : Prop := Claim7.holds Tryz.pinned (.plain (OpenSpec.ofChange linearRanksSpec)) linearRanksCard

/-- THE TIED CARD OF 'privhouselaw27.LinearNames'. -/
def linearNamesCard : Claim7 := { stood := { row := linearNamesRow, standIns := [], harness := (true, "7b40393ae7ea6150a38bf23e106066f50c31ac79be08720f923f5ff13aa1a062"), looks := true }, kinds := [], alts := [], laidByText := true, laidKinds := [.data, .data, .data, .data, .sentinel, .sentinel, .pinned], laidTests := true, laidLooks := .later }
def LinearNamesCardSaid : Prop := Claim7.holds Tryz.pinned (.plain (OpenSpec.ofChange linearNamesSpec)) linearNamesCard

/-- THE TIED CARD OF 'privhouselaw27.LinearCalls'. -/
def linearCallsCard : Claim7 := { stood := { row := linearCallsRow, standIns := [], harness := (true, "7b40393ae7ea6150a38bf23e106066f50c31ac79be08720f923f5ff13aa1a062"), looks := true }, kinds := [], alts := [], laidByText := true, laidKinds := [.data, .data, .data, .data, .sentinel, .sentinel, .pinned], laidTests := true, laidLooks := .later }
def LinearCallsCardSaid : Prop := Claim7.holds Tryz.pinned (.plain (OpenSpec.ofChange linearCallsSpec)) linearCallsCard

/-- THE SECOND FORM's CARD OF 'privhouselaw27.LinearSolves'. -/
def linearSolvesUptoCard : Claim7 := { stood := { row := linearSolvesUptoRow, standIns := [], harness := (true, "7b40393ae7ea6150a38bf23e106066f50c31ac79be08720f923f5ff13aa1a062"), looks := true }, kinds := [], alts := [], laidByText := true, laidKinds := [.data, .data, .data, .data, .sentinel, .sentinel, .pinned], laidTests := true, laidLooks := .later }
def LinearSolvesUptoCardSaid : Prop := Claim7.holds Tryz.pinned (.plain (OpenSpec.upto linearSolvesSpec)) linearSolvesUptoCard

/-- THE SECOND FORM's CARD OF 'privhouselaw27.LinearLeasts'. -/
def linearLeastsUptoCard : Claim7 := { stood := { row := linearLeastsUptoRow, standIns := [], harness := (true, "7b40393ae7ea6150a38bf23e106066f50c31ac79be08720f923f5ff13aa1a062"), looks := true }, kinds := [], alts := [], laidByText := true, laidKinds := [.data, .data, .data, .data, .sentinel, .sentinel, .pinned], laidTests := true, laidLooks := .later }
def LinearLeastsUptoCardSaid : Prop := Claim7.holds Tryz.pinned (.plain (OpenSpec.upto linearLeastsSpec)) linearLeastsUptoCard

/-- THE SECOND FORM's CARD OF 'privhouselaw27.LinearProducts'. -/
def linearProductsUptoCard : Claim7 := { stood := { row := linearProductsUptoRow, standIns := [], harness := (true, "7b40393ae7ea6150a38bf23e106066f50c31ac79be08720f923f5ff13aa1a062"), looks := true }, kinds := [], alts := [], laidByText := true, laidKinds := [.data, .data, .data, .data, .sentinel, .sentinel, .pinned], laidTests := true, laidLooks := .later }
def LinearProductsUptoCardSaid : Prop := Claim7.holds Tryz.pinned (.plain (OpenSpec.upto linearProductsSpec)) linearProductsUptoCard

/-- THE SECOND FORM's CARD OF 'privhouselaw27.LinearRanks'. -/
def linearRanksUptoCard : Claim7 := { stood := { row := linearRanksUptoRow, standIns := [], harness := (true, "7b40393ae7ea6150a38bf23e106066f50c31ac79be08720f923f5ff13aa1a062"), looks := true }, kinds := [], alts := [], laidByText := true, laidKinds := [.data, .data, .data, .data, .sentinel, .sentinel, .pinned], laidTests := true, laidLooks := .later }
def LinearRanksUptoCardSaid : Prop := Claim7.holds Tryz.pinned (.plain (OpenSpec.upto linearRanksSpec)) linearRanksUptoCard

/-- THE SECOND FORM's CARD OF 'privhouselaw27.LinearNames'. -/
def linearNamesUptoCard : Claim7 := { stood := { row := linearNamesUptoRow, standIns := [], harness := (true, "7b40393ae7ea6150a38bf23e106066f50c31ac79be08720f923f5ff13aa1a062"), looks := true }, kinds := [], alts := [], laidByText := true, laidKinds := [.data, .data, .data, .data, .sentinel, .sentinel, .pinned], laidTests := true, laidLooks := .later }
def LinearNamesUptoCardSaid : Prop := Claim7.holds Tryz.pinned (.plain (OpenSpec.upto linearNamesSpec)) linearNamesUptoCard

/-- THE SECOND FORM's CARD OF 'privhouselaw27.LinearCalls'. -/
def linearCallsUptoCard : Claim7 := { stood := { row := linearCallsUptoRow, standIns := [], harness := (true, "7b40393ae7ea6150a38bf23e106066f50c31ac79be08720f923f5ff13aa1a062"), looks := true }, kinds := [], alts := [], laidByText := true, laidKinds := [.data, .data, .data, .data, .sentinel, .sentinel, .pinned], laidTests := true, laidLooks := .later }
def LinearCallsUptoCardSaid : Prop := Claim7.holds Tryz.pinned (.plain (OpenSpec.upto linearCallsSpec)) linearCallsUptoCard
end Rows
end Go.Proofs.YtfdekppnilffeaaGreatDoor

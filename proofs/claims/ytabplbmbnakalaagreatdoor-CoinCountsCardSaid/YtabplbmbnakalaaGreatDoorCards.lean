/-
  DERIVED. GIVEN WITH THE SEED: THE CARDS: each row of YtabplbmbnakalaaGreatDoorRows.lean that lists a variable, with what it lists TIED to the program's text (the seventh form; the later family's looks); each row that meets fmt, with fmt's text TOLD by the authors' own Lean function (tested against real Go, not proved from fmt's source: count such statements apart). THE CARD IS WHAT COUNTS. Prove the row's statement (the work); the ties are given (YtabplbmbnakalaaGreatDoorTie.lean); close each card by the builder's one call (the guide's Derived/Test/ToyasCard.lean, 'card_holds'). Laid BY PROGRAM, IN A SANDBOX (cutbox-door.mjs). By AI agents, Wed Nov 11 2026. No macro, syntax, notation, axiom, sorry.
-/
import Derived.Test.YtabplbmbnakalaaGreatDoorRows
import GoSem.ClaimSeven
namespace Go.Proofs.YtabplbmbnakalaaGreatDoor
namespace Rows

/-- THE TIED CARD OF 'privhouselaw04.CoinLonger'. -/
def coinLongerCard : Claim7 := { stood := { row := coinLongerRow, standIns := [], harness := (true, "62be8a5cdcb650c1199ecf43b1dab724daf049ebb39cd1c76aa422a9ed019c33"), looks := true }, kinds := [], alts := [], laidByText := true, laidKinds := [.data, .data, .data, .data, .sentinel, .sentinel, .pinned], laidTests := true, laidLooks := .later }
def CoinLongerCardSaid : Prop := Claim7.holds Tryz.pinned (.plain (OpenSpec.ofChange coinLongerSpec)) coinLongerCard

/-- THE TIED CARD OF 'privhouselaw04.CoinNames'. -/
def coinNamesCard : Claim7 := { stood := { row := coinNamesRow, standIns := [], harness := (true, "62be8a5cdcb650c1199ecf43b1dab724daf049ebb39cd1c76aa422a9ed019c33"), looks := true }, kinds := [], alts := [], laidByText := true, laidKinds := [.data, .data, .data, .data, .sentinel, .sentinel, .pinned], laidTests := true, laidLooks := .later }
def CoinNamesCardSaid : Prop := Claim7.holds Tryz.pinned (.plain (OpenSpec.ofChange coinNamesSpec)) coinNamesCard

/-- THE TIED CARD OF 'privhouselaw04.CoinCalls'. -/
def coinCallsCard : Claim7 := { stood := { row := coinCallsRow, standIns := [], harness := (true, "62be8a5cdcb650c1199ecf43b1dab724daf049ebb39cd1c76aa422a9ed019c33"), looks := true }, kinds := [], alts := [], laidByText := true, laidKinds := [.data, .data, .data, .data, .sentinel, .sentinel, .pinned], laidTests := true, laidLooks := .later }
def CoinCallsCardSaid : Prop := Claim7.holds Tryz.pinned (.plain (OpenSpec.ofChange coinCallsSpec)) coinCallsCard

/-- THE TIED CARD OF 'privhouselaw04.CoinCounts'. -/
def coinCountsCard : Claim7 := { stood := { row := coinCountsRow, standIns := [], harness := (true, "62be8a5cdcb650c1199ecf43b1dab724daf049ebb39cd1c76aa422a9ed019c33"), looks := true }, kinds := [], alts := [], laidByText := true, laidKinds := [.data, .data, .data, .data, .sentinel, .sentinel, .pinned], laidTests := true, laidLooks := .later }
def CoinCountsCardSaid : Prop := Claim7.holds Tryz.pinned (.plain (OpenSpec.ofChange coinCountsSpec)) coinCountsCard

/-- THE TIED CARD OF 'privhouselaw04.CoinNear'. -/
def coinNearCard : Claim7 := { stood := { row := coinNearRow, standIns := [], harness := (true, "62be8a5cdcb650c1199ecf43b1dab724daf049ebb39cd1c76aa422a9ed019c33"), looks := true }, kinds := [], alts := [], laidByText := true, laidKinds := [.data, .data, .data, .data, .sentinel, .sentinel, .pinned], laidTests := true, laidLooks := .later }
def CoinNearCardSaid : Prop := Claim7.holds Tryz.pinned (.plain (OpenSpec.ofChange coinNearSpec)) coinNearCard

/-- THE SECOND FORM's CARD OF 'privhouselaw04.CoinLonger'. -/
def coinLongerUptoCard : Claim7 := { stood := { row := coinLongerUptoRow, standIns := [], harness := (true, "62be8a5cdcb650c1199ecf43b1dab724daf049ebb39cd1c76aa422a9ed019c33"), looks := true }, kinds := [], alts := [], laidByText := true, laidKinds := [.data, .data, .data, .data, .sentinel, .sentinel, .pinned], laidTests := true, laidLooks := .later }
def CoinLongerUptoCardSaid : Prop := Claim7.holds Tryz.pinned (.plain (OpenSpec.upto coinLongerSpec)) coinLongerUptoCard

/-- THE SECOND FORM's CARD OF 'privhouselaw04.CoinNames'. -/
def coinNamesUptoCard : Claim7 := { stood := { row := coinNamesUptoRow, standIns := [], harness := (true, "62be8a5cdcb650c1199ecf43b1dab724daf049ebb39cd1c76aa422a9ed019c33"), looks := true }, kinds := [], alts := [], laidByText := true, laidKinds := [.data, .data, .data, .data, .sentinel, .sentinel, .pinned], laidTests := true, laidLooks := .later }
def CoinNamesUptoCardSaid : Prop := Claim7.holds Tryz.pinned (.plain (OpenSpec.upto coinNamesSpec)) coinNamesUptoCard

/-- THE SECOND FORM's CARD OF 'privhouselaw04.CoinCalls'. -/
def coinCallsUptoCard : Claim7 := { stood := { row := coinCallsUptoRow, standIns := [], harness := (true, "62be8a5cdcb650c1199ecf43b1dab724daf049ebb39cd1c76aa422a9ed019c33"), looks := true }, kinds := [], alts := [], laidByText := true, laidKinds := [.data, .data, .data, .data, .sentinel, .sentinel, .pinned], laidTests := true, laidLooks := .later }
def CoinCallsUptoCardSaid : Prop := Claim7.holds Tryz.pinned (.plain (OpenSpec.upto coinCallsSpec)) coinCallsUptoCard

/-- THE SECOND FORM's CARD OF 'privhouselaw04.CoinCounts'. -/
def coinCountsUptoCard : Claim7 := { stood := { row := coinCountsUptoRow, standIns := [], harness := (true, "62be8a5cdcb650c1199ecf43b1dab724daf049ebb39cd1c76aa422a9ed019c33"), looks := true }, kinds := [], alts := [], laidByText := true, laidKinds := [.data, .data, .data, .data, .sentinel, .sentinel, .pinned], laidTests := true, laidLooks := .later }
def CoinCountsUptoCardSaid : Prop := Claim7.holds Tryz.pinned (.plain (OpenSpec.upto coinCountsSpec)) coinCountsUptoCard

/-- THE SECOND FORM's CARD OF 'privhouselaw04.CoinNear'. -/
def coinNearUptoCard : Claim7 := { stood := { row := coinNearUptoRow, standIns := [], harness := (true, "62be8a5cdcb650c1199ecf43b1dab724daf049ebb39cd1c76aa422a9ed019c33"), looks := true }, kinds := [], alts := [], laidByText := true, laidKinds := [.data, .data, .data, .data, .sentinel, .sentinel, .pinned], laidTests := true, laidLooks := .later }
def CoinNearUptoCardSaid : Prop := Claim7.holds Tryz.pinned (.plain (OpenSpec.upto coinNearSpec)) coinNearUptoCard
end Rows
end Go.Proofs.YtabplbmbnakalaaGreatDoor

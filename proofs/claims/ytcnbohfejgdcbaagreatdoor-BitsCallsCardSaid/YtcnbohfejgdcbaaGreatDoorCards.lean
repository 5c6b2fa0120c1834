/-
  DERIVED. GIVEN WITH THE SEED: THE CARDS: each row of YtcnbohfejgdcbaaGreatDoorRows.lean that lists a variable, with what it lists TIED to the program's text (the seventh form; the later family's looks); each row that meets fmt, with fmt's text TOLD by the authors' own Lean function (tested against real Go, not proved from fmt's source: count such statements apart). THE CARD IS WHAT COUNTS. Prove the row's statement (the work); the ties are given (YtcnbohfejgdcbaaGreatDoorTie.lean); close each card by the builder's one call (the guide's Derived/Test/ToyasCard.lean, 'card_holds'). Laid BY PROGRAM, IN A SANDBOX (cutbox-door.mjs). By AI agents, Wed Nov 11 2026. No macro, syntax, notation, axiom, sorry.
-/
import Derived.Test.YtcnbohfejgdcbaaGreatDoorRows
import GoSem.ClaimSeven
namespace Go.Proofs.YtcnbohfejgdcbaaGreatDoor
namespace Rows

/-- THE TIED CARD OF 'privhouselaw03.BitsAll'. -/
def bitsAllCard : Claim7 := { stood := { row := bitsAllRow, standIns := [], harness := (true, "9253602defe6177f1c4a34ba765feb7b701ba88f34935a59e3a854155f7688d2"), looks := true }, kinds := [], alts := [], laidByText := true, laidKinds := [.data, .data, .data, .data, .sentinel, .sentinel, .pinned], laidTests := true, laidLooks := .later }
def BitsAllCardSaid : Prop := Claim7.holds Tryz.pinned (.plain (OpenSpec.ofChange bitsAllSpec)) bitsAllCard

/-- THE TIED CARD OF 'privhouselaw03.BitsHalves'. -/
def bitsHalvesCard : Claim7 := { stood := { row := bitsHalvesRow, standIns := [], harness := (true, "9253602defe6177f1c4a34ba765feb7b701ba88f34935a59e3a854155f7688d2"), looks := true }, kinds := [], alts := [], laidByText := true, laidKinds := [.data, .data, .data, .data, .sentinel, .sentinel, .pinned], laidTests := true, laidLooks := .later }
def BitsHalvesCardSaid : Prop := Claim7.holds Tryz.pinned (.plain (OpenSpec.ofChange bitsHalvesSpec)) bitsHalvesCard

/-- THE TIED CARD OF 'privhouselaw03.BitsBack'. -/
def bitsBackCard : Claim7 := { stood := { row := bitsBackRow, standIns := [], harness := (true, "9253602defe6177f1c4a34ba765feb7b701ba88f34935a59e3a854155f7688d2"), looks := true }, kinds := [], alts := [], laidByText := true, laidKinds := [.data, .data, .data, .data, .sentinel, .sentinel, .pinned], laidTests := true, laidLooks := .later }
def BitsBackCardSaid : Prop := Claim7.holds Tryz.pinned (.plain (OpenSpec.ofChange bitsBackSpec)) bitsBackCard

/-- THE TIED CARD OF 'privhouselaw03.BitsPieces'. -/
def bitsPiecesCard : Claim7 := { stood := { row := bitsPiecesRow, standIns := [], harness := (true, "9253602defe6177f1c4a34ba765feb7b701ba88f34935a59e3a854155f7688d2"), looks := true }, kinds := [], alts := [], laidByText := true, laidKinds := [.data, .data, .data, .data, .sentinel, .sentinel, .pinned], laidTests := true, laidLooks := .later }
def BitsPiecesCardSaid : Prop := Claim7.holds Tryz.pinned (.plain (OpenSpec.ofChange bitsPiecesSpec)) bitsPiecesCard

/-- THE TIED CARD OF 'privhouselaw03.BitsNames'. -/
def bitsNamesCard : Claim7 := { stood := { row := bitsNamesRow, standIns := [], harness := (true, "9253602defe6177f1c4a34ba765feb7b701ba88f34935a59e3a854155f7688d2"), looks := true }, kinds := [], alts := [], laidByText := true, laidKinds := [.data, .data, .data, .data, .sentinel, .sentinel, .pinned], laidTests := true, laidLooks := .later }
def BitsNamesCardSaid : Prop := Claim7.holds Tryz.pinned (.plain (OpenSpec.ofChange bitsNamesSpec)) bitsNamesCard

/-- THE TIED CARD OF 'privhouselaw03.BitsCalls'. -/
def bitsCallsCard : Claim7 := { stood := { row := bitsCallsRow, standIns := [], harness := (true, "9253602defe6177f1c4a34ba765feb7b701ba88f34935a59e3a854155f7688d2"), looks := true }, kinds := [], alts := [], laidByText := true, laidKinds := [.data, .data, .data, .data, .sentinel, .sentinel, .pinned], laidTests := true, laidLooks := .later }
def BitsCallsCardSaid : Prop := Claim7.holds Tryz.pinned (.plain (OpenSpec.ofChange bitsCallsSpec)) bitsCallsCard

/-- THE SECOND FORM's CARD OF 'privhouselaw03.BitsAll'. -/
def bitsAllUptoCard : Claim7 := { stood := { row := bitsAllUptoRow, standIns := [], harness := (true, "9253602defe6177f1c4a34ba765feb7b701ba88f34935a59e3a854155f7688d2"), looks := true }, kinds := [], alts := [], laidByText := true, laidKinds := [.data, .data, .data, .data, .sentinel, .sentinel, .pinned], laidTests := true, laidLooks := .later }
def BitsAllUptoCardSaid : Prop := Claim7.holds Tryz.pinned (.plain (OpenSpec.upto bitsAllSpec)) bitsAllUptoCard

/-- THE SECOND FORM's CARD OF 'privhouselaw03.BitsHalves'. -/
def bitsHalvesUptoCard : Claim7 := { stood := { row := bitsHalvesUptoRow, standIns := [], harness := (true, "9253602defe6177f1c4a34ba765feb7b701ba88f34935a59e3a854155f7688d2"), looks := true }, kinds := [], alts := [], laidByText := true, laidKinds := [.data, .data, .data, .data, .sentinel, .sentinel, .pinned], laidTests := true, laidLooks := .later }
def BitsHalvesUptoCardSaid : Prop := Claim7.holds Tryz.pinned (.plain (OpenSpec.upto bitsHalvesSpec)) bitsHalvesUptoCard

/-- THE SECOND FORM's CARD OF 'privhouselaw03.BitsBack'. -/
def bitsBackUptoCard : Claim7 := { stood := { row := bitsBackUptoRow, standIns := [], harness := (true, "9253602defe6177f1c4a34ba765feb7b701ba88f34935a59e3a854155f7688d2"), looks := true }, kinds := [], alts := [], laidByText := true, laidKinds := [.data, .data, .data, .data, .sentinel, .sentinel, .pinned], laidTests := true, laidLooks := .later }
def BitsBackUptoCardSaid : Prop := Claim7.holds Tryz.pinned (.plain (OpenSpec.upto bitsBackSpec)) bitsBackUptoCard

/-- THE SECOND FORM's CARD OF 'privhouselaw03.BitsPieces'. -/
def bitsPiecesUptoCard : Claim7 := { stood := { row := bitsPiecesUptoRow, standIns := [], harness := (true, "9253602defe6177f1c4a34ba765feb7b701ba88f34935a59e3a854155f7688d2"), looks := true }, kinds := [], alts := [], laidByText := true, laidKinds := [.data, .data, .data, .data, .sentinel, .sentinel, .pinned], laidTests := true, laidLooks := .later }
def BitsPiecesUptoCardSaid : Prop := Claim7.holds Tryz.pinned (.plain (OpenSpec.upto bitsPiecesSpec)) bitsPiecesUptoCard

/-- THE SECOND FORM's CARD OF 'privhouselaw03.BitsNames'. -/
def bitsNamesUptoCard : Claim7 := { stood := { row := bitsNamesUptoRow, standIns := [], harness := (true, "9253602defe6177f1c4a34ba765feb7b701ba88f34935a59e3a854155f7688d2"), looks := true }, kinds := [], alts := [], laidByText := true, laidKinds := [.data, .data, .data, .data, .sentinel, .sentinel, .pinned], laidTests := true, laidLooks := .later }
def BitsNamesUptoCardSaid : Prop := Claim7.holds Tryz.pinned (.plain (OpenSpec.upto bitsNamesSpec)) bitsNamesUptoCard

/-- THE SECOND FORM's CARD OF 'privhouselaw03.BitsCalls'. -/
def bitsCallsUptoCard : Claim7 := { stood := { row := bitsCallsUptoRow, standIns := [], harness := (true, "9253602defe6177f1c4a34ba765feb7b701ba88f34935a59e3a854155f7688d2"), looks := true }, kinds := [], alts := [], laidByText := true, laidKinds := [.data, .data, .data, .data, .sentinel, .sentinel, .pinned], laidTests := true, laidLooks := .later }
def BitsCallsUptoCardSaid : Prop := Claim7.holds Tryz.pinned (.plain (OpenSpec.upto bitsCallsSpec)) bitsCallsUptoCard
end Rows
end Go.Proofs.YtcnbohfejgdcbaaGreatDoor

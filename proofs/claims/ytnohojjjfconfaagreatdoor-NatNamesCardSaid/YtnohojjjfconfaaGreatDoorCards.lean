/-
  DERIVED. GIVEN WITH THE SEED: THE CARDS: each row of YtnohojjjfconfaaGreatDoorRows.lean that lists a variable, with what it lists TIED to the program's text (the seventh form; the later family's looks); each row that meets fmt, with fmt's text TOLD by the authors' own Lean function (tested against real Go, not proved from fmt's source: count such statements apart). THE CARD IS WHAT COUNTS. Prove the row's statement (the work); the ties are given (YtnohojjjfconfaaGreatDoorTie.lean); close each card by the builder's one call (the guide's Derived/Test/ToyasCard.lean, 'card_holds'). Laid BY PROGRAM, IN A SANDBOX (cutbox-door.mjs). By AI agents, Wed Nov 11 2026. No macro, syntax, notation, axiom, sorry.
-/
import Derived.Test.YtnohojjjfconfaaGreatDoorRows
import GoSem.ClaimSeven
namespace Go.Proofs.YtnohojjjfconfaaGreatDoor
namespace Rows

/-- THE TIED CARD OF 'privhouselaw01.NatPowers'. -/
def natPowersCard : Claim7 := { stood := { row := natPowersRow, standIns := [], harness := (true, "5117a12c703d668e998f24d7b228beb04f7186f65a5eebd798cdfa1805189150"), looks := true }, kinds := [], alts := [], laidByText := true, laidKinds := [.data, .data, .data, .data, .sentinel, .sentinel, .pinned], laidTests := true, laidLooks := .later }
def NatPowersCardSaid : Prop := Claim7.holds Tryz.pinned (.plain (OpenSpec.ofChange natPowersSpec)) natPowersCard

/-- THE TIED CARD OF 'privhouselaw01.NatInts'. -/
def natIntsCard : Claim7 := { stood := { row := natIntsRow, standIns := [], harness := (true, "5117a12c703d668e998f24d7b228beb04f7186f65a5eebd798cdfa1805189150"), looks := true }, kinds := [], alts := [], laidByText := true, laidKinds := [.data, .data, .data, .data, .sentinel, .sentinel, .pinned], laidTests := true, laidLooks := .later }
def NatIntsCardSaid : Prop := Claim7.holds Tryz.pinned (.plain (OpenSpec.ofChange natIntsSpec)) natIntsCard

/-- THE TIED CARD OF 'privhouselaw01.NatNames'. -/
def natNamesCard : Claim7 := { stood := { row := natNamesRow, standIns := [], harness := (true, "5117a12c703d668e998f24d7b228beb04f7186f65a5eebd798cdfa1805189150"), looks := true }, kinds := [], alts := [], laidByText := true, laidKinds := [.data, .data, .data, .data, .sentinel, .sentinel, .pinned], laidTests := true, laidLooks := .later }
def NatNamesCardSaid : Prop := Claim7.holds Tryz.pinned (.plain (OpenSpec.ofChange natNamesSpec)) natNamesCard

/-- THE TIED CARD OF 'privhouselaw01.NatCalls'. -/
def natCallsCard : Claim7 := { stood := { row := natCallsRow, standIns := [], harness := (true, "5117a12c703d668e998f24d7b228beb04f7186f65a5eebd798cdfa1805189150"), looks := true }, kinds := [], alts := [], laidByText := true, laidKinds := [.data, .data, .data, .data, .sentinel, .sentinel, .pinned], laidTests := true, laidLooks := .later }
def NatCallsCardSaid : Prop := Claim7.holds Tryz.pinned (.plain (OpenSpec.ofChange natCallsSpec)) natCallsCard

/-- THE SECOND FORM's CARD OF 'privhouselaw01.NatPowers'. -/
def natPowersUptoCard : Claim7 := { stood := { row := natPowersUptoRow, standIns := [], harness := (true, "5117a12c703d668e998f24d7b228beb04f7186f65a5eebd798cdfa1805189150"), looks := true }, kinds := [], alts := [], laidByText := true, laidKinds := [.data, .data, .data, .data, .sentinel, .sentinel, .pinned], laidTests := true, laidLooks := .later }
def NatPowersUptoCardSaid : Prop := Claim7.holds Tryz.pinned (.plain (OpenSpec.upto natPowersSpec)) natPowersUptoCard

/-- THE SECOND FORM's CARD OF 'privhouselaw01.NatInts'. -/
def natIntsUptoCard : Claim7 := { stood := { row := natIntsUptoRow, standIns := [], harness := (true, "5117a12c703d668e998f24d7b228beb04f7186f65a5eebd798cdfa1805189150"), looks := true }, kinds := [], alts := [], laidByText := true, laidKinds := [.data, .data, .data, .data, .sentinel, .sentinel, .pinned], laidTests := true, laidLooks := .later }
def NatIntsUptoCardSaid : Prop := Claim7.holds Tryz.pinned (.plain (OpenSpec.upto natIntsSpec)) natIntsUptoCard

/-- THE SECOND FORM's CARD OF 'privhouselaw01.NatNames'. -/
def natNamesUptoCard : Claim7 := { stood := { row := natNamesUptoRow, standIns := [], harness := (true, "5117a12c703d668e998f24d7b228beb04f7186f65a5eebd798cdfa1805189150"), looks := true }, kinds := [], alts := [], laidByText := true, laidKinds := [.data, .data, .data, .data, .sentinel, .sentinel, .pinned], laidTests := true, laidLooks := .later }
def NatNamesUptoCardSaid : Prop := Claim7.holds Tryz.pinned (.plain (OpenSpec.upto natNamesSpec)) natNamesUptoCard

/-- THE SECOND FORM's CARD OF 'privhouselaw01.NatCalls'. -/
def natCallsUptoCard : Claim7 := { stood := { row := natCallsUptoRow, standIns := [], harness := (true, "5117a12c703d668e998f24d7b228beb04f7186f65a5eebd798cdfa1805189150"), looks := true }, kinds := [], alts := [], laidByText := true, laidKinds := [.data, .data, .data, .data, .sentinel, .sentinel, .pinned], laidTests := true, laidLooks := .later }
def NatCallsUptoCardSaid : Prop := Claim7.holds Tryz.pinned (.plain (OpenSpec.upto natCallsSpec)) natCallsUptoCard
end Rows
end Go.Proofs.YtnohojjjfconfaaGreatDoor

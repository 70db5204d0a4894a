/-
  DERIVED. GIVEN WITH THE SEED: THE CARDS: each row of YtjkfondgacjpnaaGreatDoorRows.lean that lists a variable, with what it lists TIED to the program's text (the seventh form; the later family's looks); each row that meets fmt, with fmt's text TOLD by the authors' own Lean function (tested against real Go, not proved from fmt's source: count such statements apart). THE CARD IS WHAT COUNTS. Prove the row's statement (the work); the ties are given (YtjkfondgacjpnaaGreatDoorTie.lean); close each card by the builder's one call (the guide's Derived/Test/ToyasCard.lean, 'card_holds'). Laid BY PROGRAM, IN A SANDBOX (cutbox-door.mjs). By AI agents, Wed Nov 11 2026. No macro, syntax, notation, axiom, sorry.
-/
import Derived.Test.YtjkfondgacjpnaaGreatDoorRows
import GoSem.ClaimSeven
namespace Go.Proofs.YtjkfondgacjpnaaGreatDoor
namespace Rows

/-- THE TIED CARD OF 'mangrovelaw29.ManyFails'. -/
def manyFailsCard : Claim7 := { stood := { row := manyFailsRow, standIns := [], harness := (true, "fc50ee5dce1e428e86c7c134bcb9f58887efd711ceb15ac0c4e7acec18b4a0c7"), looks := true }, kinds := [], alts := [], laidByText := true, laidKinds := [.widerDeep, .data, .widerDeep], laidTests := true, laidLooks := .later }
def ManyFailsCardSaid : Prop := Claim7.holds Tryz.pinned (.plain (OpenSpec.ofChange manyFailsSpec)) manyFailsCard

/-- THE TIED CARD OF 'mangrovelaw29.ManyKnown'. -/
def manyKnownCard : Claim7 := { stood := { row := manyKnownRow, standIns := [], harness := (true, "fc50ee5dce1e428e86c7c134bcb9f58887efd711ceb15ac0c4e7acec18b4a0c7"), looks := true }, kinds := [], alts := [], laidByText := true, laidKinds := [.widerDeep, .data, .widerDeep], laidTests := true, laidLooks := .later }
def ManyKnownCardSaid : Prop := Claim7.holds Tryz.pinned (.plain (OpenSpec.ofChange manyKnownSpec)) manyKnownCard

/-- THE SECOND FORM's CARD OF 'mangrovelaw29.ManyKnown'. -/
def manyKnownUptoCard : Claim7 := { stood := { row := manyKnownUptoRow, standIns := [], harness := (true, "fc50ee5dce1e428e86c7c134bcb9f58887efd711ceb15ac0c4e7acec18b4a0c7"), looks := true }, kinds := [], alts := [], laidByText := true, laidKinds := [.widerDeep, .data, .widerDeep], laidTests := true, laidLooks := .later }
def ManyKnownUptoCardSaid : Prop := Claim7.holds Tryz.pinned (.plain (OpenSpec.upto manyKnownSpec)) manyKnownUptoCard
end Rows
end Go.Proofs.YtjkfondgacjpnaaGreatDoor

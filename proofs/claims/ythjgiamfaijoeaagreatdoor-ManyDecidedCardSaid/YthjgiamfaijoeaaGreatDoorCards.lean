/-
  DERIVED. GIVEN WITH THE SEED: THE CARDS: each row of YthjgiamfaijoeaaGreatDoorRows.lean that lists a variable, with what it lists TIED to the program's text (the seventh form; the later family's looks); each row that meets fmt, with fmt's text TOLD by the authors' own Lean function (tested against real Go, not proved from fmt's source: count such statements apart). THE CARD IS WHAT COUNTS. Prove the row's statement (the work); the ties are given (YthjgiamfaijoeaaGreatDoorTie.lean); close each card by the builder's one call (the guide's Derived/Test/ToyasCard.lean, 'card_holds'). Laid BY PROGRAM, IN A SANDBOX (cutbox-door.mjs). By AI agents, Wed Nov 11 2026. No macro, syntax, notation, axiom, sorry.
-/
import Derived.Test.YthjgiamfaijoeaaGreatDoorRows
import GoSem.ClaimSeven
namespace Go.Proofs.YthjgiamfaijoeaaGreatDoor
namespace Rows

/-- THE TIED CARD OF 'mangrovelaw29.ManyAgreed'. -/
def manyAgreedCard : Claim7 := { stood := { row := manyAgreedRow, standIns := [], harness := (true, "1b4b851c96a3dac6cfb6d43c7e3c22a30c089ab11074fcb6cbe144d162331a9f"), looks := true }, kinds := [], alts := [], laidByText := true, laidKinds := [.widerDeep, .data, .widerDeep], laidTests := true, laidLooks := .later }
def ManyAgreedCardSaid : Prop := Claim7.holds Tryz.pinned (.plain (OpenSpec.ofChange manyAgreedSpec)) manyAgreedCard

/-- THE TIED CARD OF 'mangrovelaw29.ManyPlays'. -/
def manyPlaysCard : Claim7 := { stood := { row := manyPlaysRow, standIns := [], harness := (true, "1b4b851c96a3dac6cfb6d43c7e3c22a30c089ab11074fcb6cbe144d162331a9f"), looks := true }, kinds := [], alts := [], laidByText := true, laidKinds := [.widerDeep, .data, .widerDeep], laidTests := true, laidLooks := .later }
def ManyPlaysCardSaid : Prop := Claim7.holds Tryz.pinned (.plain (OpenSpec.ofChange manyPlaysSpec)) manyPlaysCard

/-- THE TIED CARD OF 'mangrovelaw29.ManyDecided'. -/
def manyDecidedCard : Claim7 := { stood := { row := manyDecidedRow, standIns := [], harness := (true, "1b4b851c96a3dac6cfb6d43c7e3c22a30c089ab11074fcb6cbe144d162331a9f"), looks := true }, kinds := [], alts := [], laidByText := true, laidKinds := [.widerDeep, .data, .widerDeep], laidTests := true, laidLooks := .later }
def ManyDecidedCardSaid : Prop := Claim7.holds Tryz.pinned (.plain (OpenSpec.ofChange manyDecidedSpec)) manyDecidedCard

/-- THE SECOND FORM's CARD OF 'mangrovelaw29.ManyAgreed'. -/
def manyAgreedUptoCard : Claim7 := { stood := { row := manyAgreedUptoRow, standIns := [], harness := (true, "1b4b851c96a3dac6cfb6d43c7e3c22a30c089ab11074fcb6cbe144d162331a9f"), looks := true }, kinds := [], alts := [], laidByText := true, laidKinds := [.widerDeep, .data, .widerDeep], laidTests := true, laidLooks := .later }
def ManyAgreedUptoCardSaid : Prop := Claim7.holds Tryz.pinned (.plain (OpenSpec.upto manyAgreedSpec)) manyAgreedUptoCard

/-- THE SECOND FORM's CARD OF 'mangrovelaw29.ManyPlays'. -/
def manyPlaysUptoCard : Claim7 := { stood := { row := manyPlaysUptoRow, standIns := [], harness := (true, "1b4b851c96a3dac6cfb6d43c7e3c22a30c089ab11074fcb6cbe144d162331a9f"), looks := true }, kinds := [], alts := [], laidByText := true, laidKinds := [.widerDeep, .data, .widerDeep], laidTests := true, laidLooks := .later }
def ManyPlaysUptoCardSaid : Prop := Claim7.holds Tryz.pinned (.plain (OpenSpec.upto manyPlaysSpec)) manyPlaysUptoCard

/-- THE SECOND FORM's CARD OF 'mangrovelaw29.ManyDecided'. -/
def manyDecidedUptoCard : Claim7 := { stood := { row := manyDecidedUptoRow, standIns := [], harness := (true, "1b4b851c96a3dac6cfb6d43c7e3c22a30c089ab11074fcb6cbe144d162331a9f"), looks := true }, kinds := [], alts := [], laidByText := true, laidKinds := [.widerDeep, .data, .widerDeep], laidTests := true, laidLooks := .later }
def ManyDecidedUptoCardSaid : Prop := Claim7.holds Tryz.pinned (.plain (OpenSpec.upto manyDecidedSpec)) manyDecidedUptoCard
end Rows
end Go.Proofs.YthjgiamfaijoeaaGreatDoor

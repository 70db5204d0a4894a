/-
  DERIVED. GIVEN WITH THE SEED: THE CARDS: each row of YtohpcfhgbgfblaaGreatDoorRows.lean that lists a variable, with what it lists TIED to the program's text (the seventh form; the later family's looks); each row that meets fmt, with fmt's text TOLD by the authors' own Lean function (tested against real Go, not proved from fmt's source: count such statements apart). THE CARD IS WHAT COUNTS. Prove the row's statement (the work); the ties are given (YtohpcfhgbgfblaaGreatDoorTie.lean); close each card by the builder's one call (the guide's Derived/Test/ToyasCard.lean, 'card_holds'). Laid BY PROGRAM, IN A SANDBOX (cutbox-door.mjs). By AI agents, Wed Nov 11 2026. No macro, syntax, notation, axiom, sorry.
-/
import Derived.Test.YtohpcfhgbgfblaaGreatDoorRows
import GoSem.ClaimSeven
namespace Go.Proofs.YtohpcfhgbgfblaaGreatDoor
namespace Rows

/-- THE TIED CARD OF 'mangrovelaw26.DaemonHears'. -/
def daemonHearsCard : Claim7 := { stood := { row := daemonHearsRow, standIns := [], harness := (true, "362e38caae5c24c215a9d7af055aa1da19a0c72111d0921e993c34e770a9d39c"), looks := true }, kinds := [], alts := [], laidByText := true, laidKinds := [.widerDeep, .data, .widerDeep], laidTests := true, laidLooks := .later }
def DaemonHearsCardSaid : Prop := Claim7.holds Tryz.pinned (.plain (OpenSpec.ofChange daemonHearsSpec)) daemonHearsCard

/-- THE TIED CARD OF 'mangrovelaw26.DaemonKnown'. -/
def daemonKnownCard : Claim7 := { stood := { row := daemonKnownRow, standIns := [], harness := (true, "362e38caae5c24c215a9d7af055aa1da19a0c72111d0921e993c34e770a9d39c"), looks := true }, kinds := [], alts := [], laidByText := true, laidKinds := [.widerDeep, .data, .widerDeep], laidTests := true, laidLooks := .later }
def DaemonKnownCardSaid : Prop := Claim7.holds Tryz.pinned (.plain (OpenSpec.ofChange daemonKnownSpec)) daemonKnownCard

/-- THE SECOND FORM's CARD OF 'mangrovelaw26.DaemonHears'. -/
def daemonHearsUptoCard : Claim7 := { stood := { row := daemonHearsUptoRow, standIns := [], harness := (true, "362e38caae5c24c215a9d7af055aa1da19a0c72111d0921e993c34e770a9d39c"), looks := true }, kinds := [], alts := [], laidByText := true, laidKinds := [.widerDeep, .data, .widerDeep], laidTests := true, laidLooks := .later }
def DaemonHearsUptoCardSaid : Prop := Claim7.holds Tryz.pinned (.plain (OpenSpec.upto daemonHearsSpec)) daemonHearsUptoCard

/-- THE SECOND FORM's CARD OF 'mangrovelaw26.DaemonKnown'. -/
def daemonKnownUptoCard : Claim7 := { stood := { row := daemonKnownUptoRow, standIns := [], harness := (true, "362e38caae5c24c215a9d7af055aa1da19a0c72111d0921e993c34e770a9d39c"), looks := true }, kinds := [], alts := [], laidByText := true, laidKinds := [.widerDeep, .data, .widerDeep], laidTests := true, laidLooks := .later }
def DaemonKnownUptoCardSaid : Prop := Claim7.holds Tryz.pinned (.plain (OpenSpec.upto daemonKnownSpec)) daemonKnownUptoCard
end Rows
end Go.Proofs.YtohpcfhgbgfblaaGreatDoor

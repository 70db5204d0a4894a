/-
  DERIVED. GIVEN WITH THE SEED: THE PROGRAM's TIES (one call each: nine closed facts by the kernel) AND EACH ROW's TIE, after the 31st guide's Derived/Test/Toyas{Tie, Card}.lean. No idea stands in it: it is a product of the set-up. Laid BY PROGRAM, IN A SANDBOX (cutbox-door.mjs). By AI agents, Wed Nov 11 2026. No macro, syntax, notation, axiom, sorry.
-/
import Derived.Test.YthjgiamfaijoeaaGreatDoorRows
import Derived.LaidByTextLater
import Derived.SevenTiedAt
import Derived.LaidSub
import Derived.LaidOnce
namespace Go.Proofs.YthjgiamfaijoeaaGreatDoor
open Go
set_option maxRecDepth 100000
theorem seatTie1 : Tryz.prog.laidByTextLater [("mangrove/blake.begins", Rows.laid_mangrove_blake_begins), ("mangrove/blake.orders", Rows.laid_mangrove_blake_orders), ("mangrove/pack.forms", Rows.laid_mangrove_pack_forms)] [.widerDeep, .data, .widerDeep] true :=
  Program.laidByTextLater_by_one 27 8 11 (by kernel_rfl) (by kernel_rfl) (by kernel_rfl) (by kernel_rfl) (by kernel_rfl) (by kernel_rfl) (fun _ _ => by kernel_rfl)
theorem noOwnUnsafe : Tryz.pinned.checked.prog.headLifts.contains "ownunsafe" = false := by kernel_rfl
theorem tie : Tryz.prog.laidByTextLater [("mangrove/blake.begins", Rows.laid_mangrove_blake_begins), ("mangrove/blake.orders", Rows.laid_mangrove_blake_orders), ("mangrove/pack.forms", Rows.laid_mangrove_pack_forms)] [.widerDeep, .data, .widerDeep] true :=
  Program.laidByTextLater.sub seatTie1 ["mangrove/blake.begins", "mangrove/blake.orders", "mangrove/pack.forms"] (by kernel_rfl) (by kernel_rfl)
theorem manyAgreed_row_tie : Rows.manyAgreedRow.laidByTextAt .later Tryz.pinned [.widerDeep, .data, .widerDeep] true :=
  OpenClaim.laidByTextAt_later rfl rfl tie noOwnUnsafe
theorem manyPlays_row_tie : Rows.manyPlaysRow.laidByTextAt .later Tryz.pinned [.widerDeep, .data, .widerDeep] true :=
  OpenClaim.laidByTextAt_later rfl rfl tie noOwnUnsafe
theorem manyDecided_row_tie : Rows.manyDecidedRow.laidByTextAt .later Tryz.pinned [.widerDeep, .data, .widerDeep] true :=
  OpenClaim.laidByTextAt_later rfl rfl tie noOwnUnsafe
theorem manyAgreedUpto_row_tie : Rows.manyAgreedUptoRow.laidByTextAt .later Tryz.pinned [.widerDeep, .data, .widerDeep] true :=
  OpenClaim.laidByTextAt_later rfl rfl tie noOwnUnsafe
theorem manyPlaysUpto_row_tie : Rows.manyPlaysUptoRow.laidByTextAt .later Tryz.pinned [.widerDeep, .data, .widerDeep] true :=
  OpenClaim.laidByTextAt_later rfl rfl tie noOwnUnsafe
theorem manyDecidedUpto_row_tie : Rows.manyDecidedUptoRow.laidByTextAt .later Tryz.pinned [.widerDeep, .data, .widerDeep] true :=
  OpenClaim.laidByTextAt_later rfl rfl tie noOwnUnsafe
end Go.Proofs.YthjgiamfaijoeaaGreatDoor

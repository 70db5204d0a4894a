/-
  No cell of these rows narrows 'for every input' (looked for: loops, veiled, ifaces, maps, wideKeys, modest, calm, conditions, laid).
  DERIVED. THE GIVEN ROWS OF THIS SEAT. 9 by the template 'for every input the law returns true; each argument reads behind the call as it read before'; 0 by the template 'total and deterministic' (their statements: YtigpdnbcjmcfoaaTotals.lean).
  GIVEN WITH THE SEED: the statements are not yours to turn. If you find one false, say at which input.
  Laid BY PROGRAM, IN A SANDBOX (cutbox-rows.mjs): the forced cells as the released guide's own fill.sh prints them over the translation 11ea86375d8ea7b6… (all of the seat's roots in one cut). By AI agents, Wed Nov 11 2026. No macro, syntax, notation, axiom, sorry.
-/
import Derived.Test.YtigpdnbcjmcfoaaChecked
import GoSem.Claim
import GoSem.ClaimJoined
import GoSem.ClaimMapViews
import Derived.JoinedTies
import Derived.KernelRfl
namespace Go.Proofs.Ytigpdnbcjmcfoaa
/- THE CELL 'sum', in the pinned program and in every row, IS THE sha256 OF THE DUMP (.gsa) THAT YtigpdnbcjmcfoaaProg.lean LOADS. Nothing in Lean hashes anything: it is a label: what it is worth is what the hold of that sum in a sandbox is worth. -/
noncomputable def Try.pinned : Pinned := { name := "ytigpdnbcjmcfoaa", sum := "11ea86375d8ea7b6a9aa8c1b6cb86870b6508bda11a79dbb364b68a6a2535f9d", checked := Try.checked }
namespace Rows
def none {H : Type} : Left H := { results := [], args := [] }

/-- 'mangrovelaw02.AmountTotals': WHATEVER THE INPUT: true; the input reads as it did. -/
def amountTotalsSpec : ChangeSpec := { name := "amountTotals", fn := fun _ => fun
  | [d] => { results := [.lit (.bool true)], args := [d] }
  | _ => none }
def amountTotalsRow : OpenClaim := { program := "ytigpdnbcjmcfoaa", sum := "11ea86375d8ea7b6a9aa8c1b6cb86870b6508bda11a79dbb364b68a6a2535f9d", func := "mangrove/mangrovelaw02.AmountTotals", spec := "amountTotals", inPlace := ["math/bits.Add64"], named := ["math/bits.divideError", "math/bits.overflowError"], apart := false }
def AmountTotalsSaid : Prop := amountTotalsRow.holds Try.pinned (OpenSpec.ofChange amountTotalsSpec)

/-- ITS FALSE NEIGHBOUR: 'it returns false'. Refute it at one input. -/
def amountTotalsWrong : ChangeSpec := { name := "amountTotals", fn := fun _ => fun
  | [d] => { results := [.lit (.bool false)], args := [d] }
  | _ => none }
def AmountTotalsWrongFalsely : Prop := amountTotalsRow.holds Try.pinned (OpenSpec.ofChange amountTotalsWrong)

/-- 'mangrovelaw02.AmountParts': WHATEVER THE INPUT: true; the input reads as it did. -/
def amountPartsSpec : ChangeSpec := { name := "amountParts", fn := fun _ => fun
  | [d1, d2, d3] => { results := [.lit (.bool true)], args := [d1, d2, d3] }
  | _ => none }
def amountPartsRow : OpenClaim := { program := "ytigpdnbcjmcfoaa", sum := "11ea86375d8ea7b6a9aa8c1b6cb86870b6508bda11a79dbb364b68a6a2535f9d", func := "mangrove/mangrovelaw02.AmountParts", spec := "amountParts", inPlace := ["math/bits.Add64"], named := ["math/bits.divideError", "math/bits.overflowError"], apart := false }
def AmountPartsSaid : Prop := amountPartsRow.holds Try.pinned (OpenSpec.ofChange amountPartsSpec)

/-- ITS FALSE NEIGHBOUR: 'it returns false'. Refute it at one input. -/
def amountPartsWrong : ChangeSpec := { name := "amountParts", fn := fun _ => fun
  | [d1, d2, d3] => { results := [.lit (.bool false)], args := [d1, d2, d3] }
  | _ => none }
def AmountPartsWrongFalsely : Prop := amountPartsRow.holds Try.pinned (OpenSpec.ofChange amountPartsWrong)

/-- 'mangrovelaw02.AmountBack': WHATEVER THE INPUT: true; the input reads as it did. -/
def amountBackSpec : ChangeSpec := { name := "amountBack", fn := fun _ => fun
  | [d1, d2] => { results := [.lit (.bool true)], args := [d1, d2] }
  | _ => none }
def amountBackRow : OpenClaim := { program := "ytigpdnbcjmcfoaa", sum := "11ea86375d8ea7b6a9aa8c1b6cb86870b6508bda11a79dbb364b68a6a2535f9d", func := "mangrove/mangrovelaw02.AmountBack", spec := "amountBack", inPlace := ["math/bits.Add64"], named := ["math/bits.divideError", "math/bits.overflowError"], apart := false }
def AmountBackSaid : Prop := amountBackRow.holds Try.pinned (OpenSpec.ofChange amountBackSpec)

/-- ITS FALSE NEIGHBOUR: 'it returns false'. Refute it at one input. -/
def amountBackWrong : ChangeSpec := { name := "amountBack", fn := fun _ => fun
  | [d1, d2] => { results := [.lit (.bool false)], args := [d1, d2] }
  | _ => none }
def AmountBackWrongFalsely : Prop := amountBackRow.holds Try.pinned (OpenSpec.ofChange amountBackWrong)

/-- 'mangrovelaw02.AmountPieces': WHATEVER THE INPUT: true; the input reads as it did. -/
def amountPiecesSpec : ChangeSpec := { name := "amountPieces", fn := fun _ => fun
  | [d1, d2, d3] => { results := [.lit (.bool true)], args := [d1, d2, d3] }
  | _ => none }
def amountPiecesRow : OpenClaim := { program := "ytigpdnbcjmcfoaa", sum := "11ea86375d8ea7b6a9aa8c1b6cb86870b6508bda11a79dbb364b68a6a2535f9d", func := "mangrove/mangrovelaw02.AmountPieces", spec := "amountPieces", inPlace := ["math/bits.Add64"], named := ["math/bits.divideError", "math/bits.overflowError"], apart := false }
def AmountPiecesSaid : Prop := amountPiecesRow.holds Try.pinned (OpenSpec.ofChange amountPiecesSpec)

/-- ITS FALSE NEIGHBOUR: 'it returns false'. Refute it at one input. -/
def amountPiecesWrong : ChangeSpec := { name := "amountPieces", fn := fun _ => fun
  | [d1, d2, d3] => { results := [.lit (.bool false)], args := [d1, d2, d3] }
  | _ => none }
def AmountPiecesWrongFalsely : Prop := amountPiecesRow.holds Try.pinned (OpenSpec.ofChange amountPiecesWrong)

/-- 'mangrovelaw02.AmountSays': WHATEVER THE INPUT: true; the input reads as it did. -/
def amountSaysSpec : ChangeSpec := { name := "amountSays", fn := fun _ => fun
  | [d1, d2] => { results := [.lit (.bool true)], args := [d1, d2] }
  | _ => none }
def amountSaysRow : OpenClaim := { program := "ytigpdnbcjmcfoaa", sum := "11ea86375d8ea7b6a9aa8c1b6cb86870b6508bda11a79dbb364b68a6a2535f9d", func := "mangrove/mangrovelaw02.AmountSays", spec := "amountSays", inPlace := ["math/bits.Add64"], named := ["math/bits.divideError", "math/bits.overflowError"], apart := false }
def AmountSaysSaid : Prop := amountSaysRow.holds Try.pinned (OpenSpec.ofChange amountSaysSpec)

/-- ITS FALSE NEIGHBOUR: 'it returns false'. Refute it at one input. -/
def amountSaysWrong : ChangeSpec := { name := "amountSays", fn := fun _ => fun
  | [d1, d2] => { results := [.lit (.bool false)], args := [d1, d2] }
  | _ => none }
def AmountSaysWrongFalsely : Prop := amountSaysRow.holds Try.pinned (OpenSpec.ofChange amountSaysWrong)

/-- 'mangrovelaw02.AmountKnown': WHATEVER THE INPUT: true; the input reads as it did. -/
def amountKnownSpec : ChangeSpec := { name := "amountKnown", fn := fun _ => fun
  | [] => { results := [.lit (.bool true)], args := [] }
  | _ => none }
def amountKnownRow : OpenClaim := { program := "ytigpdnbcjmcfoaa", sum := "11ea86375d8ea7b6a9aa8c1b6cb86870b6508bda11a79dbb364b68a6a2535f9d", func := "mangrove/mangrovelaw02.AmountKnown", spec := "amountKnown", inPlace := ["math/bits.Add64"], named := ["math/bits.divideError", "math/bits.overflowError"], apart := false }
def AmountKnownSaid : Prop := amountKnownRow.holds Try.pinned (OpenSpec.ofChange amountKnownSpec)

/-- ITS FALSE NEIGHBOUR: 'it returns false'. Refute it at one input. -/
def amountKnownWrong : ChangeSpec := { name := "amountKnown", fn := fun _ => fun
  | [] => { results := [.lit (.bool false)], args := [] }
  | _ => none }
def AmountKnownWrongFalsely : Prop := amountKnownRow.holds Try.pinned (OpenSpec.ofChange amountKnownWrong)

/-- 'mangrovelaw20.QuoteSays': WHATEVER THE INPUT: true; the input reads as it did. -/
def quoteSaysSpec : ChangeSpec := { name := "quoteSays", fn := fun _ => fun
  | [d1, d2, d3] => { results := [.lit (.bool true)], args := [d1, d2, d3] }
  | _ => none }
def quoteSaysRow : OpenClaim := { program := "ytigpdnbcjmcfoaa", sum := "11ea86375d8ea7b6a9aa8c1b6cb86870b6508bda11a79dbb364b68a6a2535f9d", func := "mangrove/mangrovelaw20.QuoteSays", spec := "quoteSays", inPlace := ["math/bits.Add64"], unfollowed := true, recurses := true, named := ["math/bits.divideError", "math/bits.overflowError"], apart := false }
def QuoteSaysSaid : Prop := quoteSaysRow.holds Try.pinned (OpenSpec.ofChange quoteSaysSpec)

/-- ITS FALSE NEIGHBOUR: 'it returns false'. Refute it at one input. -/
def quoteSaysWrong : ChangeSpec := { name := "quoteSays", fn := fun _ => fun
  | [d1, d2, d3] => { results := [.lit (.bool false)], args := [d1, d2, d3] }
  | _ => none }
def QuoteSaysWrongFalsely : Prop := quoteSaysRow.holds Try.pinned (OpenSpec.ofChange quoteSaysWrong)

/-- 'mangrovelaw20.QuoteNever': WHATEVER THE INPUT: true; the input reads as it did. -/
def quoteNeverSpec : ChangeSpec := { name := "quoteNever", fn := fun _ => fun
  | [d1, d2] => { results := [.lit (.bool true)], args := [d1, d2] }
  | _ => none }
def quoteNeverRow : OpenClaim := { program := "ytigpdnbcjmcfoaa", sum := "11ea86375d8ea7b6a9aa8c1b6cb86870b6508bda11a79dbb364b68a6a2535f9d", func := "mangrove/mangrovelaw20.QuoteNever", spec := "quoteNever", inPlace := ["math/bits.Add64"], unfollowed := true, recurses := true, named := ["math/bits.divideError", "math/bits.overflowError"], apart := false }
def QuoteNeverSaid : Prop := quoteNeverRow.holds Try.pinned (OpenSpec.ofChange quoteNeverSpec)

/-- ITS FALSE NEIGHBOUR: 'it returns false'. Refute it at one input. -/
def quoteNeverWrong : ChangeSpec := { name := "quoteNever", fn := fun _ => fun
  | [d1, d2] => { results := [.lit (.bool false)], args := [d1, d2] }
  | _ => none }
def QuoteNeverWrongFalsely : Prop := quoteNeverRow.holds Try.pinned (OpenSpec.ofChange quoteNeverWrong)

/-- 'mangrovelaw20.QuoteKnown': WHATEVER THE INPUT: true; the input reads as it did. -/
def quoteKnownSpec : ChangeSpec := { name := "quoteKnown", fn := fun _ => fun
  | [] => { results := [.lit (.bool true)], args := [] }
  | _ => none }
def quoteKnownRow : OpenClaim := { program := "ytigpdnbcjmcfoaa", sum := "11ea86375d8ea7b6a9aa8c1b6cb86870b6508bda11a79dbb364b68a6a2535f9d", func := "mangrove/mangrovelaw20.QuoteKnown", spec := "quoteKnown", inPlace := ["math/bits.Add64"], unfollowed := true, recurses := true, named := ["math/bits.divideError", "math/bits.overflowError"], apart := false }
def QuoteKnownSaid : Prop := quoteKnownRow.holds Try.pinned (OpenSpec.ofChange quoteKnownSpec)

/-- ITS FALSE NEIGHBOUR: 'it returns false'. Refute it at one input. -/
def quoteKnownWrong : ChangeSpec := { name := "quoteKnown", fn := fun _ => fun
  | [] => { results := [.lit (.bool false)], args := [] }
  | _ => none }
def QuoteKnownWrongFalsely : Prop := quoteKnownRow.holds Try.pinned (OpenSpec.ofChange quoteKnownWrong)

/- THE SECOND FORM. 'bulk': how many values and letters a reading holds, each counted each time it is reached (what is shared counts as often as it is met; a slice's spare places count too). A statement '..UptoSaid' is the law's where the arguments, and the package variables that the reading takes, are together of bulk at most 1048576: NARROWER than '..Said'. Prove '..Said' where nothing that the law and all that it calls make is longer than what came in: it says more and counts as full. Else prove '..UptoSaid'. A law counts once. -/
mutual
def uptoBulk {H : Type} : DataW H → Nat
  | .lit (.string bytes) => bytes.length + 1
  | .lit _ => 1
  | .nil => 1
  | .ptr d => uptoBulk d + 1
  | .slice elems spare => uptoBulkAll elems + uptoBulkAll spare + 1
  | .agg parts => uptoBulkAll parts + 1
  | .iface _ d => uptoBulk d + 1
  | .map entries => uptoBulkEntries entries + 1
  | .held _ => 1
def uptoBulkAll {H : Type} : List (DataW H) → Nat
  | [] => 0
  | d :: r => uptoBulk d + uptoBulkAll r
def uptoBulkEntries {H : Type} : List (Lit × DataW H) → Nat
  | [] => 0
  | x :: r => uptoBulkEntry x + uptoBulkEntries r
def uptoBulkEntry {H : Type} : Lit × DataW H → Nat
  | (.string bytes, d) => bytes.length + uptoBulk d + 1
  | (_, d) => uptoBulk d + 1
 end
def uptoSmall : (H : Type) → List (DataW H) → Bool := fun _ ds => decide (uptoBulkAll ds ≤ 1048576)
def OpenSpec.upto (s : _root_.Go.ChangeSpec) : _root_.Go.OpenSpec := { _root_.Go.OpenSpec.ofChange s with cond := some uptoSmall }

/-- 'mangrovelaw02.AmountTotals', WHERE WHAT IT READS IS OF BULK AT MOST 1048576: true; the input reads as it did. -/
def amountTotalsUptoRow : OpenClaim := { program := "ytigpdnbcjmcfoaa", sum := "11ea86375d8ea7b6a9aa8c1b6cb86870b6508bda11a79dbb364b68a6a2535f9d", func := "mangrove/mangrovelaw02.AmountTotals", spec := "amountTotals", inPlace := ["math/bits.Add64"], named := ["math/bits.divideError", "math/bits.overflowError"], apart := false, narrowed := true }
def AmountTotalsUptoSaid : Prop := amountTotalsUptoRow.holds Try.pinned (OpenSpec.upto amountTotalsSpec)

/-- 'mangrovelaw02.AmountParts', WHERE WHAT IT READS IS OF BULK AT MOST 1048576: true; the input reads as it did. -/
def amountPartsUptoRow : OpenClaim := { program := "ytigpdnbcjmcfoaa", sum := "11ea86375d8ea7b6a9aa8c1b6cb86870b6508bda11a79dbb364b68a6a2535f9d", func := "mangrove/mangrovelaw02.AmountParts", spec := "amountParts", inPlace := ["math/bits.Add64"], named := ["math/bits.divideError", "math/bits.overflowError"], apart := false, narrowed := true }
def AmountPartsUptoSaid : Prop := amountPartsUptoRow.holds Try.pinned (OpenSpec.upto amountPartsSpec)

/-- 'mangrovelaw02.AmountBack', WHERE WHAT IT READS IS OF BULK AT MOST 1048576: true; the input reads as it did. -/
def amountBackUptoRow : OpenClaim := { program := "ytigpdnbcjmcfoaa", sum := "11ea86375d8ea7b6a9aa8c1b6cb86870b6508bda11a79dbb364b68a6a2535f9d", func := "mangrove/mangrovelaw02.AmountBack", spec := "amountBack", inPlace := ["math/bits.Add64"], named := ["math/bits.divideError", "math/bits.overflowError"], apart := false, narrowed := true }
def AmountBackUptoSaid : Prop := amountBackUptoRow.holds Try.pinned (OpenSpec.upto amountBackSpec)

/-- 'mangrovelaw02.AmountPieces', WHERE WHAT IT READS IS OF BULK AT MOST 1048576: true; the input reads as it did. -/
def amountPiecesUptoRow : OpenClaim := { program := "ytigpdnbcjmcfoaa", sum := "11ea86375d8ea7b6a9aa8c1b6cb86870b6508bda11a79dbb364b68a6a2535f9d", func := "mangrove/mangrovelaw02.AmountPieces", spec := "amountPieces", inPlace := ["math/bits.Add64"], named := ["math/bits.divideError", "math/bits.overflowError"], apart := false, narrowed := true }
def AmountPiecesUptoSaid : Prop := amountPiecesUptoRow.holds Try.pinned (OpenSpec.upto amountPiecesSpec)

/-- 'mangrovelaw02.AmountSays', WHERE WHAT IT READS IS OF BULK AT MOST 1048576: true; the input reads as it did. -/
def amountSaysUptoRow : OpenClaim := { program := "ytigpdnbcjmcfoaa", sum := "11ea86375d8ea7b6a9aa8c1b6cb86870b6508bda11a79dbb364b68a6a2535f9d", func := "mangrove/mangrovelaw02.AmountSays", spec := "amountSays", inPlace := ["math/bits.Add64"], named := ["math/bits.divideError", "math/bits.overflowError"], apart := false, narrowed := true }
def AmountSaysUptoSaid : Prop := amountSaysUptoRow.holds Try.pinned (OpenSpec.upto amountSaysSpec)

/-- 'mangrovelaw02.AmountKnown', WHERE WHAT IT READS IS OF BULK AT MOST 1048576: true; the input reads as it did. -/
def amountKnownUptoRow : OpenClaim := { program := "ytigpdnbcjmcfoaa", sum := "11ea86375d8ea7b6a9aa8c1b6cb86870b6508bda11a79dbb364b68a6a2535f9d", func := "mangrove/mangrovelaw02.AmountKnown", spec := "amountKnown", inPlace := ["math/bits.Add64"], named := ["math/bits.divideError", "math/bits.overflowError"], apart := false, narrowed := true }
def AmountKnownUptoSaid : Prop := amountKnownUptoRow.holds Try.pinned (OpenSpec.upto amountKnownSpec)

/-- 'mangrovelaw20.QuoteSays', WHERE WHAT IT READS IS OF BULK AT MOST 1048576: true; the input reads as it did. -/
def quoteSaysUptoRow : OpenClaim := { program := "ytigpdnbcjmcfoaa", sum := "11ea86375d8ea7b6a9aa8c1b6cb86870b6508bda11a79dbb364b68a6a2535f9d", func := "mangrove/mangrovelaw20.QuoteSays", spec := "quoteSays", inPlace := ["math/bits.Add64"], unfollowed := true, recurses := true, named := ["math/bits.divideError", "math/bits.overflowError"], apart := false, narrowed := true }
def QuoteSaysUptoSaid : Prop := quoteSaysUptoRow.holds Try.pinned (OpenSpec.upto quoteSaysSpec)

/-- 'mangrovelaw20.QuoteNever', WHERE WHAT IT READS IS OF BULK AT MOST 1048576: true; the input reads as it did. -/
def quoteNeverUptoRow : OpenClaim := { program := "ytigpdnbcjmcfoaa", sum := "11ea86375d8ea7b6a9aa8c1b6cb86870b6508bda11a79dbb364b68a6a2535f9d", func := "mangrove/mangrovelaw20.QuoteNever", spec := "quoteNever", inPlace := ["math/bits.Add64"], unfollowed := true, recurses := true, named := ["math/bits.divideError", "math/bits.overflowError"], apart := false, narrowed := true }
def QuoteNeverUptoSaid : Prop := quoteNeverUptoRow.holds Try.pinned (OpenSpec.upto quoteNeverSpec)

/-- 'mangrovelaw20.QuoteKnown', WHERE WHAT IT READS IS OF BULK AT MOST 1048576: true; the input reads as it did. -/
def quoteKnownUptoRow : OpenClaim := { program := "ytigpdnbcjmcfoaa", sum := "11ea86375d8ea7b6a9aa8c1b6cb86870b6508bda11a79dbb364b68a6a2535f9d", func := "mangrove/mangrovelaw20.QuoteKnown", spec := "quoteKnown", inPlace := ["math/bits.Add64"], unfollowed := true, recurses := true, named := ["math/bits.divideError", "math/bits.overflowError"], apart := false, narrowed := true }
def QuoteKnownUptoSaid : Prop := quoteKnownUptoRow.holds Try.pinned (OpenSpec.upto quoteKnownSpec)

end Rows
end Go.Proofs.Ytigpdnbcjmcfoaa

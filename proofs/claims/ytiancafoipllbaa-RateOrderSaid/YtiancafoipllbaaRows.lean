/-
  No cell of these rows narrows 'for every input' (looked for: loops, veiled, ifaces, maps, wideKeys, modest, calm, conditions, laid).
  DERIVED. THE GIVEN ROWS OF THIS SEAT. 7 by the template 'for every input the law returns true; each argument reads behind the call as it read before'; 0 by the template 'total and deterministic' (their statements: YtiancafoipllbaaTotals.lean).
  GIVEN WITH THE SEED: the statements are not yours to turn. If you find one false, say at which input.
  Laid BY PROGRAM, IN A SANDBOX (cutbox-rows.mjs): the forced cells as the released guide's own fill.sh prints them over the translation d1aae9f1f6193b51… (all of the seat's roots in one cut). By AI agents, Wed Nov 11 2026. No macro, syntax, notation, axiom, sorry.
-/
import Derived.Test.YtiancafoipllbaaChecked
import GoSem.Claim
import GoSem.ClaimJoined
import GoSem.ClaimMapViews
import Derived.JoinedTies
import Derived.KernelRfl
namespace Go.Proofs.Ytiancafoipllbaa
/- THE CELL 'sum', in the pinned program and in every row, IS THE sha256 OF THE DUMP (.gsa) THAT YtiancafoipllbaaProg.lean LOADS. Nothing in Lean hashes anything: it is a label: what it is worth is what the hold of that sum in a sandbox is worth. -/
noncomputable def Try.pinned : Pinned := { name := "ytiancafoipllbaa", sum := "d1aae9f1f6193b51e7ffe018ecb9cf0405d045be420a627183022ff5770d050e", checked := Try.checked }
namespace Rows
def none {H : Type} : Left H := { results := [], args := [] }

/-- 'mangrovelaw14.RateMedians': WHATEVER THE INPUT: true; the input reads as it did. -/
def rateMediansSpec : ChangeSpec := { name := "rateMedians", fn := fun _ => fun
  | [d] => { results := [.lit (.bool true)], args := [d] }
  | _ => none }
def rateMediansRow : OpenClaim := { program := "ytiancafoipllbaa", sum := "d1aae9f1f6193b51e7ffe018ecb9cf0405d045be420a627183022ff5770d050e", func := "mangrove/mangrovelaw14.RateMedians", spec := "rateMedians", inPlace := ["math.archCeil", "math.archFloor", "math.Float64bits", "math.Float64frombits", "math.archTrunc"], unfollowed := true, recurses := true, apart := false }
def RateMediansSaid : Prop := rateMediansRow.holds Try.pinned (OpenSpec.ofChange rateMediansSpec)

/-- ITS FALSE NEIGHBOUR: 'it returns false'. Refute it at one input. -/
def rateMediansWrong : ChangeSpec := { name := "rateMedians", fn := fun _ => fun
  | [d] => { results := [.lit (.bool false)], args := [d] }
  | _ => none }
def RateMediansWrongFalsely : Prop := rateMediansRow.holds Try.pinned (OpenSpec.ofChange rateMediansWrong)

/-- 'mangrovelaw14.RateFees': WHATEVER THE INPUT: true; the input reads as it did. -/
def rateFeesSpec : ChangeSpec := { name := "rateFees", fn := fun _ => fun
  | [d] => { results := [.lit (.bool true)], args := [d] }
  | _ => none }
def rateFeesRow : OpenClaim := { program := "ytiancafoipllbaa", sum := "d1aae9f1f6193b51e7ffe018ecb9cf0405d045be420a627183022ff5770d050e", func := "mangrove/mangrovelaw14.RateFees", spec := "rateFees", inPlace := ["math.archCeil", "math.archFloor", "math.Float64bits", "math.Float64frombits", "math.archTrunc"], unfollowed := true, recurses := true, apart := false }
def RateFeesSaid : Prop := rateFeesRow.holds Try.pinned (OpenSpec.ofChange rateFeesSpec)

/-- ITS FALSE NEIGHBOUR: 'it returns false'. Refute it at one input. -/
def rateFeesWrong : ChangeSpec := { name := "rateFees", fn := fun _ => fun
  | [d] => { results := [.lit (.bool false)], args := [d] }
  | _ => none }
def RateFeesWrongFalsely : Prop := rateFeesRow.holds Try.pinned (OpenSpec.ofChange rateFeesWrong)

/-- 'mangrovelaw14.RateGrows': WHATEVER THE INPUT: true; the input reads as it did. -/
def rateGrowsSpec : ChangeSpec := { name := "rateGrows", fn := fun _ => fun
  | [d1, d2] => { results := [.lit (.bool true)], args := [d1, d2] }
  | _ => none }
def rateGrowsRow : OpenClaim := { program := "ytiancafoipllbaa", sum := "d1aae9f1f6193b51e7ffe018ecb9cf0405d045be420a627183022ff5770d050e", func := "mangrove/mangrovelaw14.RateGrows", spec := "rateGrows", inPlace := ["math.archCeil", "math.archFloor", "math.Float64bits", "math.Float64frombits", "math.archTrunc"], unfollowed := true, recurses := true, apart := false }
def RateGrowsSaid : Prop := rateGrowsRow.holds Try.pinned (OpenSpec.ofChange rateGrowsSpec)

/-- ITS FALSE NEIGHBOUR: 'it returns false'. Refute it at one input. -/
def rateGrowsWrong : ChangeSpec := { name := "rateGrows", fn := fun _ => fun
  | [d1, d2] => { results := [.lit (.bool false)], args := [d1, d2] }
  | _ => none }
def RateGrowsWrongFalsely : Prop := rateGrowsRow.holds Try.pinned (OpenSpec.ofChange rateGrowsWrong)

/-- 'mangrovelaw14.RateOrder': WHATEVER THE INPUT: true; the input reads as it did. -/
def rateOrderSpec : ChangeSpec := { name := "rateOrder", fn := fun _ => fun
  | [d1, d2, d3] => { results := [.lit (.bool true)], args := [d1, d2, d3] }
  | _ => none }
def rateOrderRow : OpenClaim := { program := "ytiancafoipllbaa", sum := "d1aae9f1f6193b51e7ffe018ecb9cf0405d045be420a627183022ff5770d050e", func := "mangrove/mangrovelaw14.RateOrder", spec := "rateOrder", inPlace := ["math.archCeil", "math.archFloor", "math.Float64bits", "math.Float64frombits", "math.archTrunc"], unfollowed := true, recurses := true, apart := false }
def RateOrderSaid : Prop := rateOrderRow.holds Try.pinned (OpenSpec.ofChange rateOrderSpec)

/-- ITS FALSE NEIGHBOUR: 'it returns false'. Refute it at one input. -/
def rateOrderWrong : ChangeSpec := { name := "rateOrder", fn := fun _ => fun
  | [d1, d2, d3] => { results := [.lit (.bool false)], args := [d1, d2, d3] }
  | _ => none }
def RateOrderWrongFalsely : Prop := rateOrderRow.holds Try.pinned (OpenSpec.ofChange rateOrderWrong)

/-- 'mangrovelaw14.RateSays': WHATEVER THE INPUT: true; the input reads as it did. -/
def rateSaysSpec : ChangeSpec := { name := "rateSays", fn := fun _ => fun
  | [d] => { results := [.lit (.bool true)], args := [d] }
  | _ => none }
def rateSaysRow : OpenClaim := { program := "ytiancafoipllbaa", sum := "d1aae9f1f6193b51e7ffe018ecb9cf0405d045be420a627183022ff5770d050e", func := "mangrove/mangrovelaw14.RateSays", spec := "rateSays", inPlace := ["math.archCeil", "math.archFloor", "math.Float64bits", "math.Float64frombits", "math.archTrunc"], unfollowed := true, recurses := true, apart := false }
def RateSaysSaid : Prop := rateSaysRow.holds Try.pinned (OpenSpec.ofChange rateSaysSpec)

/-- ITS FALSE NEIGHBOUR: 'it returns false'. Refute it at one input. -/
def rateSaysWrong : ChangeSpec := { name := "rateSays", fn := fun _ => fun
  | [d] => { results := [.lit (.bool false)], args := [d] }
  | _ => none }
def RateSaysWrongFalsely : Prop := rateSaysRow.holds Try.pinned (OpenSpec.ofChange rateSaysWrong)

/-- 'mangrovelaw14.RateOf': WHATEVER THE INPUT: true; the input reads as it did. -/
def rateOfSpec : ChangeSpec := { name := "rateOf", fn := fun _ => fun
  | [d1, d2] => { results := [.lit (.bool true)], args := [d1, d2] }
  | _ => none }
def rateOfRow : OpenClaim := { program := "ytiancafoipllbaa", sum := "d1aae9f1f6193b51e7ffe018ecb9cf0405d045be420a627183022ff5770d050e", func := "mangrove/mangrovelaw14.RateOf", spec := "rateOf", inPlace := ["math.archCeil", "math.archFloor", "math.Float64bits", "math.Float64frombits", "math.archTrunc"], unfollowed := true, recurses := true, apart := false }
def RateOfSaid : Prop := rateOfRow.holds Try.pinned (OpenSpec.ofChange rateOfSpec)

/-- ITS FALSE NEIGHBOUR: 'it returns false'. Refute it at one input. -/
def rateOfWrong : ChangeSpec := { name := "rateOf", fn := fun _ => fun
  | [d1, d2] => { results := [.lit (.bool false)], args := [d1, d2] }
  | _ => none }
def RateOfWrongFalsely : Prop := rateOfRow.holds Try.pinned (OpenSpec.ofChange rateOfWrong)

/-- 'mangrovelaw14.RateKnown': WHATEVER THE INPUT: true; the input reads as it did. -/
def rateKnownSpec : ChangeSpec := { name := "rateKnown", fn := fun _ => fun
  | [] => { results := [.lit (.bool true)], args := [] }
  | _ => none }
def rateKnownRow : OpenClaim := { program := "ytiancafoipllbaa", sum := "d1aae9f1f6193b51e7ffe018ecb9cf0405d045be420a627183022ff5770d050e", func := "mangrove/mangrovelaw14.RateKnown", spec := "rateKnown", inPlace := ["math.Float64bits", "math.Float64frombits", "math.archCeil", "math.archFloor", "math.archTrunc"], unfollowed := true, recurses := true, apart := false }
def RateKnownSaid : Prop := rateKnownRow.holds Try.pinned (OpenSpec.ofChange rateKnownSpec)

/-- ITS FALSE NEIGHBOUR: 'it returns false'. Refute it at one input. -/
def rateKnownWrong : ChangeSpec := { name := "rateKnown", fn := fun _ => fun
  | [] => { results := [.lit (.bool false)], args := [] }
  | _ => none }
def RateKnownWrongFalsely : Prop := rateKnownRow.holds Try.pinned (OpenSpec.ofChange rateKnownWrong)

/- THE SECOND FORM. 'bulk': how many values and letters a reading holds, each counted each time it is reached (what is shared counts as often as it is met; a slice's spare places count too). A statement '..UptoSaid' is the law's where the arguments, and the package variables that the reading takes, are together of bulk at most 1048576: NARROWER than '..Said'. Prove '..Said' where nothing that the law and all that it calls make is longer than what came in: it says more and counts as full. Else prove '..UptoSaid'. A law counts once. -/
mutual
def uptoBulk {H : Type} : DataW H → Nat
  | .lit (.string bytes) => bytes.length + 1
  | .lit _ => 1
  | .nil => 1
  | .ptr d => uptoBulk d + 1
  | .slice elems spare => uptoBulkAll elems + uptoBulkAll spare + 1
  | .agg parts => uptoBulkAll parts + 1
  | .iface _ d => uptoBulk d + 1
  | .map entries => uptoBulkEntries entries + 1
  | .held _ => 1
def uptoBulkAll {H : Type} : List (DataW H) → Nat
  | [] => 0
  | d :: r => uptoBulk d + uptoBulkAll r
def uptoBulkEntries {H : Type} : List (Lit × DataW H) → Nat
  | [] => 0
  | x :: r => uptoBulkEntry x + uptoBulkEntries r
def uptoBulkEntry {H : Type} : Lit × DataW H → Nat
  | (.string bytes, d) => bytes.length + uptoBulk d + 1
  | (_, d) => uptoBulk d + 1
 end
def uptoSmall : (H : Type) → List (DataW H) → Bool := fun _ ds => decide (uptoBulkAll ds ≤ 1048576)
def OpenSpec.upto (s : _root_.Go.ChangeSpec) : _root_.Go.OpenSpec := { _root_.Go.OpenSpec.ofChange s with cond := some uptoSmall }

/-- 'mangrovelaw14.RateMedians', WHERE WHAT IT READS IS OF BULK AT MOST 1048576: true; the input reads as it did. -/
def rateMediansUptoRow : OpenClaim := { program := "ytiancafoipllbaa", sum := "d1aae9f1f6193b51e7ffe018ecb9cf0405d045be420a627183022ff5770d050e", func := "mangrove/mangrovelaw14.RateMedians", spec := "rateMedians", inPlace := ["math.archCeil", "math.archFloor", "math.Float64bits", "math.Float64frombits", "math.archTrunc"], unfollowed := true, recurses := true, apart := false, narrowed := true }
def RateMediansUptoSaid : Prop := rateMediansUptoRow.holds Try.pinned (OpenSpec.upto rateMediansSpec)

/-- 'mangrovelaw14.RateFees', WHERE WHAT IT READS IS OF BULK AT MOST 1048576: true; the input reads as it did. -/
def rateFeesUptoRow : OpenClaim := { program := "ytiancafoipllbaa", sum := "d1aae9f1f6193b51e7ffe018ecb9cf0405d045be420a627183022ff5770d050e", func := "mangrove/mangrovelaw14.RateFees", spec := "rateFees", inPlace := ["math.archCeil", "math.archFloor", "math.Float64bits", "math.Float64frombits", "math.archTrunc"], unfollowed := true, recurses := true, apart := false, narrowed := true }
def RateFeesUptoSaid : Prop := rateFeesUptoRow.holds Try.pinned (OpenSpec.upto rateFeesSpec)

/-- 'mangrovelaw14.RateGrows', WHERE WHAT IT READS IS OF BULK AT MOST 1048576: true; the input reads as it did. -/
def rateGrowsUptoRow : OpenClaim := { program := "ytiancafoipllbaa", sum := "d1aae9f1f6193b51e7ffe018ecb9cf0405d045be420a627183022ff5770d050e", func := "mangrove/mangrovelaw14.RateGrows", spec := "rateGrows", inPlace := ["math.archCeil", "math.archFloor", "math.Float64bits", "math.Float64frombits", "math.archTrunc"], unfollowed := true, recurses := true, apart := false, narrowed := true }
def RateGrowsUptoSaid : Prop := rateGrowsUptoRow.holds Try.pinned (OpenSpec.upto rateGrowsSpec)

/-- 'mangrovelaw14.RateOrder', WHERE WHAT IT READS IS OF BULK AT MOST 1048576: true; the input reads as it did. -/
def rateOrderUptoRow : OpenClaim := { program := "ytiancafoipllbaa", sum := "d1aae9f1f6193b51e7ffe018ecb9cf0405d045be420a627183022ff5770d050e", func := "mangrove/mangrovelaw14.RateOrder", spec := "rateOrder", inPlace := ["math.archCeil", "math.archFloor", "math.Float64bits", "math.Float64frombits", "math.archTrunc"], unfollowed := true, recurses := true, apart := false, narrowed := true }
def RateOrderUptoSaid : Prop := rateOrderUptoRow.holds Try.pinned (OpenSpec.upto rateOrderSpec)

/-- 'mangrovelaw14.RateSays', WHERE WHAT IT READS IS OF BULK AT MOST 1048576: true; the input reads as it did. -/
def rateSaysUptoRow : OpenClaim := { program := "ytiancafoipllbaa", sum := "d1aae9f1f6193b51e7ffe018ecb9cf0405d045be420a627183022ff5770d050e", func := "mangrove/mangrovelaw14.RateSays", spec := "rateSays", inPlace := ["math.archCeil", "math.archFloor", "math.Float64bits", "math.Float64frombits", "math.archTrunc"], unfollowed := true, recurses := true, apart := false, narrowed := true }
def RateSaysUptoSaid : Prop := rateSaysUptoRow.holds Try.pinned (OpenSpec.upto rateSaysSpec)

/-- 'mangrovelaw14.RateOf', WHERE WHAT IT READS IS OF BULK AT MOST 1048576: true; the input reads as it did. -/
def rateOfUptoRow : OpenClaim := { program := "ytiancafoipllbaa", sum := "d1aae9f1f6193b51e7ffe018ecb9cf0405d045be420a627183022ff5770d050e", func := "mangrove/mangrovelaw14.RateOf", spec := "rateOf", inPlace := ["math.archCeil", "math.archFloor", "math.Float64bits", "math.Float64frombits", "math.archTrunc"], unfollowed := true, recurses := true, apart := false, narrowed := true }
def RateOfUptoSaid : Prop := rateOfUptoRow.holds Try.pinned (OpenSpec.upto rateOfSpec)

/-- 'mangrovelaw14.RateKnown', WHERE WHAT IT READS IS OF BULK AT MOST 1048576: true; the input reads as it did. -/
def rateKnownUptoRow : OpenClaim := { program := "ytiancafoipllbaa", sum := "d1aae9f1f6193b51e7ffe018ecb9cf0405d045be420a627183022ff5770d050e", func := "mangrove/mangrovelaw14.RateKnown", spec := "rateKnown", inPlace := ["math.Float64bits", "math.Float64frombits", "math.archCeil", "math.archFloor", "math.archTrunc"], unfollowed := true, recurses := true, apart := false, narrowed := true }
def RateKnownUptoSaid : Prop := rateKnownUptoRow.holds Try.pinned (OpenSpec.upto rateKnownSpec)

end Rows
end Go.Proofs.Ytiancafoipllbaa

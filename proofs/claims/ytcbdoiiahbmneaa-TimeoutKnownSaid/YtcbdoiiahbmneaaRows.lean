/-
  No cell of these rows narrows 'for every input' (looked for: loops, veiled, ifaces, maps, wideKeys, modest, calm, conditions, laid).
  DERIVED. THE GIVEN ROWS OF THIS SEAT. 4 by the template 'for every input the law returns true; each argument reads behind the call as it read before'; 0 by the template 'total and deterministic' (their statements: YtcbdoiiahbmneaaTotals.lean).
  GIVEN WITH THE SEED: the statements are not yours to turn. If you find one false, say at which input.
  Laid BY PROGRAM, IN A SANDBOX (cutbox-rows.mjs): the forced cells as the released guide's own fill.sh prints them over the translation d8b804f3715d3db7… (all of the seat's roots in one cut). By AI agents, Wed Nov 11 2026. No macro, syntax, notation, axiom, sorry.
-/
import Derived.Test.YtcbdoiiahbmneaaChecked
import GoSem.Claim
import GoSem.ClaimJoined
import GoSem.ClaimMapViews
import Derived.JoinedTies
import Derived.KernelRfl
namespace Go.Proofs.Ytcbdoiiahbmneaa
/- THE CELL 'sum', in the pinned program and in every row, IS THE sha256 OF THE DUMP (.gsa) THAT YtcbdoiiahbmneaaProg.lean LOADS. Nothing in Lean hashes anything: it is a label: what it is worth is what the hold of that sum in a sandbox is worth. -/
noncomputable def Try.pinned : Pinned := { name := "ytcbdoiiahbmneaa", sum := "d8b804f3715d3db73676ff79011ff9b69e1513ac17c0d9a0779ef9210304a21c", checked := Try.checked }
namespace Rows
def none {H : Type} : Left H := { results := [], args := [] }

/-- 'mangrovelaw19.TimeoutSays': WHATEVER THE INPUT: true; the input reads as it did. -/
def timeoutSaysSpec : ChangeSpec := { name := "timeoutSays", fn := fun _ => fun
  | [d1, d2, d3] => { results := [.lit (.bool true)], args := [d1, d2, d3] }
  | _ => none }
def timeoutSaysRow : OpenClaim := { program := "ytcbdoiiahbmneaa", sum := "d8b804f3715d3db73676ff79011ff9b69e1513ac17c0d9a0779ef9210304a21c", func := "mangrove/mangrovelaw19.TimeoutSays", spec := "timeoutSays", unfollowed := true, recurses := true, apart := false }
def TimeoutSaysSaid : Prop := timeoutSaysRow.holds Try.pinned (OpenSpec.ofChange timeoutSaysSpec)

/-- ITS FALSE NEIGHBOUR: 'it returns false'. Refute it at one input. -/
def timeoutSaysWrong : ChangeSpec := { name := "timeoutSays", fn := fun _ => fun
  | [d1, d2, d3] => { results := [.lit (.bool false)], args := [d1, d2, d3] }
  | _ => none }
def TimeoutSaysWrongFalsely : Prop := timeoutSaysRow.holds Try.pinned (OpenSpec.ofChange timeoutSaysWrong)

/-- 'mangrovelaw19.TimeoutSafe': WHATEVER THE INPUT: true; the input reads as it did. -/
def timeoutSafeSpec : ChangeSpec := { name := "timeoutSafe", fn := fun _ => fun
  | [d1, d2, d3, d4, d5, d6, d7] => { results := [.lit (.bool true)], args := [d1, d2, d3, d4, d5, d6, d7] }
  | _ => none }
def timeoutSafeRow : OpenClaim := { program := "ytcbdoiiahbmneaa", sum := "d8b804f3715d3db73676ff79011ff9b69e1513ac17c0d9a0779ef9210304a21c", func := "mangrove/mangrovelaw19.TimeoutSafe", spec := "timeoutSafe", unfollowed := true, recurses := true, apart := false }
def TimeoutSafeSaid : Prop := timeoutSafeRow.holds Try.pinned (OpenSpec.ofChange timeoutSafeSpec)

/-- ITS FALSE NEIGHBOUR: 'it returns false'. Refute it at one input. -/
def timeoutSafeWrong : ChangeSpec := { name := "timeoutSafe", fn := fun _ => fun
  | [d1, d2, d3, d4, d5, d6, d7] => { results := [.lit (.bool false)], args := [d1, d2, d3, d4, d5, d6, d7] }
  | _ => none }
def TimeoutSafeWrongFalsely : Prop := timeoutSafeRow.holds Try.pinned (OpenSpec.ofChange timeoutSafeWrong)

/-- 'mangrovelaw19.TimeoutLater': WHATEVER THE INPUT: true; the input reads as it did. -/
def timeoutLaterSpec : ChangeSpec := { name := "timeoutLater", fn := fun _ => fun
  | [d1, d2, d3, d4] => { results := [.lit (.bool true)], args := [d1, d2, d3, d4] }
  | _ => none }
def timeoutLaterRow : OpenClaim := { program := "ytcbdoiiahbmneaa", sum := "d8b804f3715d3db73676ff79011ff9b69e1513ac17c0d9a0779ef9210304a21c", func := "mangrove/mangrovelaw19.TimeoutLater", spec := "timeoutLater", unfollowed := true, recurses := true, apart := false }
def TimeoutLaterSaid : Prop := timeoutLaterRow.holds Try.pinned (OpenSpec.ofChange timeoutLaterSpec)

/-- ITS FALSE NEIGHBOUR: 'it returns false'. Refute it at one input. -/
def timeoutLaterWrong : ChangeSpec := { name := "timeoutLater", fn := fun _ => fun
  | [d1, d2, d3, d4] => { results := [.lit (.bool false)], args := [d1, d2, d3, d4] }
  | _ => none }
def TimeoutLaterWrongFalsely : Prop := timeoutLaterRow.holds Try.pinned (OpenSpec.ofChange timeoutLaterWrong)

/-- 'mangrovelaw19.TimeoutKnown': WHATEVER THE INPUT: true; the input reads as it did. -/
def timeoutKnownSpec : ChangeSpec := { name := "timeoutKnown", fn := fun _ => fun
  | [] => { results := [.lit (.bool true)], args := [] }
  | _ => none }
def timeoutKnownRow : OpenClaim := { program := "ytcbdoiiahbmneaa", sum := "d8b804f3715d3db73676ff79011ff9b69e1513ac17c0d9a0779ef9210304a21c", func := "mangrove/mangrovelaw19.TimeoutKnown", spec := "timeoutKnown", unfollowed := true, recurses := true, apart := false }
def TimeoutKnownSaid : Prop := timeoutKnownRow.holds Try.pinned (OpenSpec.ofChange timeoutKnownSpec)

/-- ITS FALSE NEIGHBOUR: 'it returns false'. Refute it at one input. -/
def timeoutKnownWrong : ChangeSpec := { name := "timeoutKnown", fn := fun _ => fun
  | [] => { results := [.lit (.bool false)], args := [] }
  | _ => none }
def TimeoutKnownWrongFalsely : Prop := timeoutKnownRow.holds Try.pinned (OpenSpec.ofChange timeoutKnownWrong)

/- THE SECOND FORM. 'bulk': how many values and letters a reading holds, each counted each time it is reached (what is shared counts as often as it is met; a slice's spare places count too). A statement '..UptoSaid' is the law's where the arguments, and the package variables that the reading takes, are together of bulk at most 1048576: NARROWER than '..Said'. Prove '..Said' where nothing that the law and all that it calls make is longer than what came in: it says more and counts as full. Else prove '..UptoSaid'. A law counts once. -/
mutual
def uptoBulk {H : Type} : DataW H → Nat
  | .lit (.string bytes) => bytes.length + 1
  | .lit _ => 1
  | .nil => 1
  | .ptr d => uptoBulk d + 1
  | .slice elems spare => uptoBulkAll elems + uptoBulkAll spare + 1
  | .agg parts => uptoBulkAll parts + 1
  | .iface _ d => uptoBulk d + 1
  | .map entries => uptoBulkEntries entries + 1
  | .held _ => 1
def uptoBulkAll {H : Type} : List (DataW H) → Nat
  | [] => 0
  | d :: r => uptoBulk d + uptoBulkAll r
def uptoBulkEntries {H : Type} : List (Lit × DataW H) → Nat
  | [] => 0
  | x :: r => uptoBulkEntry x + uptoBulkEntries r
def uptoBulkEntry {H : Type} : Lit × DataW H → Nat
  | (.string bytes, d) => bytes.length + uptoBulk d + 1
  | (_, d) => uptoBulk d + 1
 end
def uptoSmall : (H : Type) → List (DataW H) → Bool := fun _ ds => decide (uptoBulkAll ds ≤ 1048576)
def OpenSpec.upto (s : _root_.Go.ChangeSpec) : _root_.Go.OpenSpec := { _root_.Go.OpenSpec.ofChange s with cond := some uptoSmall }

/-- 'mangrovelaw19.TimeoutSays', WHERE WHAT IT READS IS OF BULK AT MOST 1048576: true; the input reads as it did. -/
def timeoutSaysUptoRow : OpenClaim := { program := "ytcbdoiiahbmneaa", sum := "d8b804f3715d3db73676ff79011ff9b69e1513ac17c0d9a0779ef9210304a21c", func := "mangrove/mangrovelaw19.TimeoutSays", spec := "timeoutSays", unfollowed := true, recurses := true, apart := false, narrowed := true }
def TimeoutSaysUptoSaid : Prop := timeoutSaysUptoRow.holds Try.pinned (OpenSpec.upto timeoutSaysSpec)

/-- 'mangrovelaw19.TimeoutSafe', WHERE WHAT IT READS IS OF BULK AT MOST 1048576: true; the input reads as it did. -/
def timeoutSafeUptoRow : OpenClaim := { program := "ytcbdoiiahbmneaa", sum := "d8b804f3715d3db73676ff79011ff9b69e1513ac17c0d9a0779ef9210304a21c", func := "mangrove/mangrovelaw19.TimeoutSafe", spec := "timeoutSafe", unfollowed := true, recurses := true, apart := false, narrowed := true }
def TimeoutSafeUptoSaid : Prop := timeoutSafeUptoRow.holds Try.pinned (OpenSpec.upto timeoutSafeSpec)

/-- 'mangrovelaw19.TimeoutLater', WHERE WHAT IT READS IS OF BULK AT MOST 1048576: true; the input reads as it did. -/
def timeoutLaterUptoRow : OpenClaim := { program := "ytcbdoiiahbmneaa", sum := "d8b804f3715d3db73676ff79011ff9b69e1513ac17c0d9a0779ef9210304a21c", func := "mangrove/mangrovelaw19.TimeoutLater", spec := "timeoutLater", unfollowed := true, recurses := true, apart := false, narrowed := true }
def TimeoutLaterUptoSaid : Prop := timeoutLaterUptoRow.holds Try.pinned (OpenSpec.upto timeoutLaterSpec)

/-- 'mangrovelaw19.TimeoutKnown', WHERE WHAT IT READS IS OF BULK AT MOST 1048576: true; the input reads as it did. -/
def timeoutKnownUptoRow : OpenClaim := { program := "ytcbdoiiahbmneaa", sum := "d8b804f3715d3db73676ff79011ff9b69e1513ac17c0d9a0779ef9210304a21c", func := "mangrove/mangrovelaw19.TimeoutKnown", spec := "timeoutKnown", unfollowed := true, recurses := true, apart := false, narrowed := true }
def TimeoutKnownUptoSaid : Prop := timeoutKnownUptoRow.holds Try.pinned (OpenSpec.upto timeoutKnownSpec)

end Rows
end Go.Proofs.Ytcbdoiiahbmneaa

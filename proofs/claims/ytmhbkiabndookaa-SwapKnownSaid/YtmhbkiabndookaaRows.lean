/-
  No cell of these rows narrows 'for every input' (looked for: loops, veiled, ifaces, maps, wideKeys, modest, calm, conditions, laid).
  DERIVED. THE GIVEN ROWS OF THIS SEAT. 4 by the template 'for every input the law returns true; each argument reads behind the call as it read before'; 0 by the template 'total and deterministic' (their statements: YtmhbkiabndookaaTotals.lean).
  GIVEN WITH THE SEED: the statements are not yours to turn. If you find one false, say at which input.
  Laid BY PROGRAM, IN A SANDBOX (cutbox-rows.mjs): the forced cells as the released guide's own fill.sh prints them over the translation dace1bdbe262c607… (all of the seat's roots in one cut). By AI agents, Wed Nov 11 2026. No macro, syntax, notation, axiom, sorry.
-/
import Derived.Test.YtmhbkiabndookaaChecked
import GoSem.Claim
import GoSem.ClaimJoined
import GoSem.ClaimMapViews
import Derived.JoinedTies
import Derived.KernelRfl
namespace Go.Proofs.Ytmhbkiabndookaa
/- THE CELL 'sum', in the pinned program and in every row, IS THE sha256 OF THE DUMP (.gsa) THAT YtmhbkiabndookaaProg.lean LOADS. Nothing in Lean hashes anything: it is a label: what it is worth is what the hold of that sum in a sandbox is worth. -/
noncomputable def Try.pinned : Pinned := { name := "ytmhbkiabndookaa", sum := "dace1bdbe262c607423bcc21f831173ac26d9ca4bb13f14a0b4bfc1fc2ec1054", checked := Try.checked }
namespace Rows
def none {H : Type} : Left H := { results := [], args := [] }

/-- 'mangrovelaw23.SwapNext': WHATEVER THE INPUT: true; the input reads as it did. -/
def swapNextSpec : ChangeSpec := { name := "swapNext", fn := fun _ => fun
  | [d1, d2, d3] => { results := [.lit (.bool true)], args := [d1, d2, d3] }
  | _ => none }
def swapNextRow : OpenClaim := { program := "ytmhbkiabndookaa", sum := "dace1bdbe262c607423bcc21f831173ac26d9ca4bb13f14a0b4bfc1fc2ec1054", func := "mangrove/mangrovelaw23.SwapNext", spec := "swapNext", unfollowed := true, recurses := true, apart := false }
def SwapNextSaid : Prop := swapNextRow.holds Try.pinned (OpenSpec.ofChange swapNextSpec)

/-- ITS FALSE NEIGHBOUR: 'it returns false'. Refute it at one input. -/
def swapNextWrong : ChangeSpec := { name := "swapNext", fn := fun _ => fun
  | [d1, d2, d3] => { results := [.lit (.bool false)], args := [d1, d2, d3] }
  | _ => none }
def SwapNextWrongFalsely : Prop := swapNextRow.holds Try.pinned (OpenSpec.ofChange swapNextWrong)

/-- 'mangrovelaw23.SwapCares': WHATEVER THE INPUT: true; the input reads as it did. -/
def swapCaresSpec : ChangeSpec := { name := "swapCares", fn := fun _ => fun
  | [d1, d2, d3] => { results := [.lit (.bool true)], args := [d1, d2, d3] }
  | _ => none }
def swapCaresRow : OpenClaim := { program := "ytmhbkiabndookaa", sum := "dace1bdbe262c607423bcc21f831173ac26d9ca4bb13f14a0b4bfc1fc2ec1054", func := "mangrove/mangrovelaw23.SwapCares", spec := "swapCares", unfollowed := true, recurses := true, apart := false }
def SwapCaresSaid : Prop := swapCaresRow.holds Try.pinned (OpenSpec.ofChange swapCaresSpec)

/-- ITS FALSE NEIGHBOUR: 'it returns false'. Refute it at one input. -/
def swapCaresWrong : ChangeSpec := { name := "swapCares", fn := fun _ => fun
  | [d1, d2, d3] => { results := [.lit (.bool false)], args := [d1, d2, d3] }
  | _ => none }
def SwapCaresWrongFalsely : Prop := swapCaresRow.holds Try.pinned (OpenSpec.ofChange swapCaresWrong)

/-- 'mangrovelaw23.SwapEnds': WHATEVER THE INPUT: true; the input reads as it did. -/
def swapEndsSpec : ChangeSpec := { name := "swapEnds", fn := fun _ => fun
  | [d1, d2, d3, d4] => { results := [.lit (.bool true)], args := [d1, d2, d3, d4] }
  | _ => none }
def swapEndsRow : OpenClaim := { program := "ytmhbkiabndookaa", sum := "dace1bdbe262c607423bcc21f831173ac26d9ca4bb13f14a0b4bfc1fc2ec1054", func := "mangrove/mangrovelaw23.SwapEnds", spec := "swapEnds", unfollowed := true, recurses := true, apart := false }
def SwapEndsSaid : Prop := swapEndsRow.holds Try.pinned (OpenSpec.ofChange swapEndsSpec)

/-- ITS FALSE NEIGHBOUR: 'it returns false'. Refute it at one input. -/
def swapEndsWrong : ChangeSpec := { name := "swapEnds", fn := fun _ => fun
  | [d1, d2, d3, d4] => { results := [.lit (.bool false)], args := [d1, d2, d3, d4] }
  | _ => none }
def SwapEndsWrongFalsely : Prop := swapEndsRow.holds Try.pinned (OpenSpec.ofChange swapEndsWrong)

/-- 'mangrovelaw23.SwapKnown': WHATEVER THE INPUT: true; the input reads as it did. -/
def swapKnownSpec : ChangeSpec := { name := "swapKnown", fn := fun _ => fun
  | [] => { results := [.lit (.bool true)], args := [] }
  | _ => none }
def swapKnownRow : OpenClaim := { program := "ytmhbkiabndookaa", sum := "dace1bdbe262c607423bcc21f831173ac26d9ca4bb13f14a0b4bfc1fc2ec1054", func := "mangrove/mangrovelaw23.SwapKnown", spec := "swapKnown", unfollowed := true, recurses := true, apart := false }
def SwapKnownSaid : Prop := swapKnownRow.holds Try.pinned (OpenSpec.ofChange swapKnownSpec)

/-- ITS FALSE NEIGHBOUR: 'it returns false'. Refute it at one input. -/
def swapKnownWrong : ChangeSpec := { name := "swapKnown", fn := fun _ => fun
  | [] => { results := [.lit (.bool false)], args := [] }
  | _ => none }
def SwapKnownWrongFalsely : Prop := swapKnownRow.holds Try.pinned (OpenSpec.ofChange swapKnownWrong)

/- THE SECOND FORM. 'bulk': how many values and letters a reading holds, each counted each time it is reached (what is shared counts as often as it is met; a slice's spare places count too). A statement '..UptoSaid' is the law's where the arguments, and the package variables that the reading takes, are together of bulk at most 1048576: NARROWER than '..Said'. Prove '..Said' where nothing that the law and all that it calls make is longer than what came in: it says more and counts as full. Else prove '..UptoSaid'. A law counts once. -/
mutual
def uptoBulk {H : Type} : DataW H → Nat
  | .lit (.string bytes) => bytes.length + 1
  | .lit _ => 1
  | .nil => 1
  | .ptr d => uptoBulk d + 1
  | .slice elems spare => uptoBulkAll elems + uptoBulkAll spare + 1
  | .agg parts => uptoBulkAll parts + 1
  | .iface _ d => uptoBulk d + 1
  | .map entries => uptoBulkEntries entries + 1
  | .held _ => 1
def uptoBulkAll {H : Type} : List (DataW H) → Nat
  | [] => 0
  | d :: r => uptoBulk d + uptoBulkAll r
def uptoBulkEntries {H : Type} : List (Lit × DataW H) → Nat
  | [] => 0
  | x :: r => uptoBulkEntry x + uptoBulkEntries r
def uptoBulkEntry {H : Type} : Lit × DataW H → Nat
  | (.string bytes, d) => bytes.length + uptoBulk d + 1
  | (_, d) => uptoBulk d + 1
 end
def uptoSmall : (H : Type) → List (DataW H) → Bool := fun _ ds => decide (uptoBulkAll ds ≤ 1048576)
def OpenSpec.upto (s : _root_.Go.ChangeSpec) : _root_.Go.OpenSpec := { _root_.Go.OpenSpec.ofChange s with cond := some uptoSmall }

/-- 'mangrovelaw23.SwapNext', WHERE WHAT IT READS IS OF BULK AT MOST 1048576: true; the input reads as it did. -/
def swapNextUptoRow : OpenClaim := { program := "ytmhbkiabndookaa", sum := "dace1bdbe262c607423bcc21f831173ac26d9ca4bb13f14a0b4bfc1fc2ec1054", func := "mangrove/mangrovelaw23.SwapNext", spec := "swapNext", unfollowed := true, recurses := true, apart := false, narrowed := true }
def SwapNextUptoSaid : Prop := swapNextUptoRow.holds Try.pinned (OpenSpec.upto swapNextSpec)

/-- 'mangrovelaw23.SwapCares', WHERE WHAT IT READS IS OF BULK AT MOST 1048576: true; the input reads as it did. -/
def swapCaresUptoRow : OpenClaim := { program := "ytmhbkiabndookaa", sum := "dace1bdbe262c607423bcc21f831173ac26d9ca4bb13f14a0b4bfc1fc2ec1054", func := "mangrove/mangrovelaw23.SwapCares", spec := "swapCares", unfollowed := true, recurses := true, apart := false, narrowed := true }
def SwapCaresUptoSaid : Prop := swapCaresUptoRow.holds Try.pinned (OpenSpec.upto swapCaresSpec)

/-- 'mangrovelaw23.SwapEnds', WHERE WHAT IT READS IS OF BULK AT MOST 1048576: true; the input reads as it did. -/
def swapEndsUptoRow : OpenClaim := { program := "ytmhbkiabndookaa", sum := "dace1bdbe262c607423bcc21f831173ac26d9ca4bb13f14a0b4bfc1fc2ec1054", func := "mangrove/mangrovelaw23.SwapEnds", spec := "swapEnds", unfollowed := true, recurses := true, apart := false, narrowed := true }
def SwapEndsUptoSaid : Prop := swapEndsUptoRow.holds Try.pinned (OpenSpec.upto swapEndsSpec)

/-- 'mangrovelaw23.SwapKnown', WHERE WHAT IT READS IS OF BULK AT MOST 1048576: true; the input reads as it did. -/
def swapKnownUptoRow : OpenClaim := { program := "ytmhbkiabndookaa", sum := "dace1bdbe262c607423bcc21f831173ac26d9ca4bb13f14a0b4bfc1fc2ec1054", func := "mangrove/mangrovelaw23.SwapKnown", spec := "swapKnown", unfollowed := true, recurses := true, apart := false, narrowed := true }
def SwapKnownUptoSaid : Prop := swapKnownUptoRow.holds Try.pinned (OpenSpec.upto swapKnownSpec)

end Rows
end Go.Proofs.Ytmhbkiabndookaa

/- What is proved: terms, deals and heights that come in have the shapes of the walks. No condition. -/
import Derived.Test.YtcbdoiiahbmneaaRows
import Derived.Test.YtcbdoiiahbmneaaShape
import Derived.Test.YtcbdoiiahbmneaaT1
namespace Go.Proofs.Ytcbdoiiahbmneaa
open Go.ChangeShapes Go.WideShapes Go.ChangeAt Go.RowKit

theorem own : ownKnob Try.prog.godebug = none := by kernel_rfl
theorem laidOut : laidOutB Try.prog = true := by kernel_rfl

theorem T_of {w : World} {r : Reach} {base : Nat} {v : Value} (h : Value.okWide Try.prog w r base 23 v) : ∃ t : T, v = .agg t.cells := by
  obtain ⟨f, rfl, _⟩ := ints_of (ts := List.replicate 9 3) (ks := List.replicate 9 .i64) Try.underlying23 rfl (by kernel_rfl) (by kernel_rfl) (by kernel_rfl) h
  exact ⟨⟨f 0, f 1, f 2, f 3, f 4, f 5, f 6, f 7, f 8⟩, by kernel_rfl⟩
theorem D_of {w : World} {r : Reach} {base : Nat} {v : Value} (h : Value.okWide Try.prog w r base 29 v) : ∃ d : D, v = .agg d.cells := by
  obtain ⟨f, rfl, _⟩ := ints_of (ts := List.replicate 8 3 ++ List.replicate 32 5 ++ [3]) (ks := List.replicate 8 .i64 ++ List.replicate 32 .u8 ++ [.i64]) Try.underlying29 rfl (by kernel_rfl) (by kernel_rfl) (by kernel_rfl) h
  exact ⟨⟨f 0, f 1, f 2, f 3, f 4, f 5, f 6, f 7, fun i => f (8 + i), f 40⟩, by kernel_rfl⟩
theorem N_of {w : World} {r : Reach} {base : Nat} {v : Value} (h : Value.okWide Try.prog w r base 30 v) : ∃ a b c : Int, v = .agg #[.int .i64 a, .int .i64 b, .int .i64 c] := by
  obtain ⟨f, rfl, _⟩ := ints_of (ts := List.replicate 3 3) (ks := List.replicate 3 .i64) Try.underlying30 rfl (by kernel_rfl) (by kernel_rfl) (by kernel_rfl) h
  exact ⟨f 0, f 1, f 2, by kernel_rfl⟩
end Go.Proofs.Ytcbdoiiahbmneaa

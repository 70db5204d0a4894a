/- What is proved: terms, swaps and facts that come in have the shapes of the walks. No condition. -/
import Derived.Test.YtmhbkiabndookaaRows
import Derived.Test.YtmhbkiabndookaaShapeM
import Derived.Test.YtmhbkiabndookaaV1
namespace Go.Proofs.Ytmhbkiabndookaa
open Go.ChangeShapes Go.WideShapes Go.ChangeAt Go.RowKit

theorem own : ownKnob Try.prog.godebug = none := by kernel_rfl
theorem laidOut : laidOutB Try.prog = true := by kernel_rfl

theorem T_of {w : World} {r : Reach} {base : Nat} {v : Value} (h : Value.okWide Try.prog w r base 23 v) : ∃ t : T, v = .agg t.cells := by
  obtain ⟨f, rfl, _⟩ := ints_of (ts := List.replicate 9 3) (ks := List.replicate 9 .i64) Try.underlying23 rfl (by kernel_rfl) (by kernel_rfl) (by kernel_rfl) h
  exact ⟨⟨f 0, f 1, f 2, f 3, f 4, f 5, f 6, f 7, f 8⟩, by kernel_rfl⟩
theorem S_of {w : World} {r : Reach} {base : Nat} {v : Value} (h : Value.okWide Try.prog w r base 31 v) : ∃ s : S, v = .agg s.cells := by
  obtain ⟨f, g, rfl⟩ := mixed_of (ts := List.replicate 8 3 ++ List.replicate 32 5 ++ [3, 3, 4] ++ List.replicate 32 5) (ks := List.replicate 8 (some .i64) ++ List.replicate 32 (some .u8) ++ [some .i64, some .i64, none] ++ List.replicate 32 (some .u8)) Try.underlying31 rfl (by kernel_rfl) (by kernel_rfl) (by kernel_rfl) h
  exact ⟨⟨⟨f 0, f 1, f 2, f 3, f 4, f 5, f 6, f 7, fun i => f (8 + i), f 40⟩, f 41, g 42, fun i => f (43 + i)⟩, by kernel_rfl⟩
theorem F_of {w : World} {r : Reach} {base : Nat} {v : Value} (h : Value.okWide Try.prog w r base 34 v) : ∃ s : F, v = .agg s.cells := by
  obtain ⟨f, g, rfl⟩ := mixed_of (ts := List.replicate 8 3 ++ [4] ++ List.replicate 32 5) (ks := List.replicate 8 (some .i64) ++ [none] ++ List.replicate 32 (some .u8)) Try.underlying34 rfl (by kernel_rfl) (by kernel_rfl) (by kernel_rfl) h
  exact ⟨⟨f 0, f 1, f 2, f 3, f 4, f 5, f 6, f 7, g 8, fun i => f (9 + i)⟩, by kernel_rfl⟩
end Go.Proofs.Ytmhbkiabndookaa

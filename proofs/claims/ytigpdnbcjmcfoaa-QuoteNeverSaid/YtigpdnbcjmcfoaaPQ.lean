/- What is proved: terms and what is asked have the shapes of the walks (chapter 20). No condition. -/
import Derived.Test.YtigpdnbcjmcfoaaP
import Derived.Test.YtigpdnbcjmcfoaaA9
namespace Go.Proofs.Ytigpdnbcjmcfoaa
open Go.ChangeShapes Go.WideShapes Go.ChangeAt Go.RowKit Sx

theorem Tm_of {w : World} {r : Reach} {base : Nat} {v : Value} (h : Value.okWide Try.prog w r base 36 v) : ∃ t : Tm, v = .agg t.cells := by
  obtain ⟨f, rfl, _⟩ := ints_of (ts := List.replicate 9 3) (ks := List.replicate 9 .i64) Try.underlying36 rfl (by kernel_rfl) (by kernel_rfl) (by kernel_rfl) h
  exact ⟨⟨f 0, f 1, f 2, f 3, f 4, f 5, f 6, f 7, f 8⟩, by kernel_rfl⟩
theorem Asked_of {w : World} {r : Reach} {base : Nat} {v : Value} (h : Value.okWide Try.prog w r base 42 v) : ∃ a b c : Int, v = .agg #[.int .i64 a, .int .i64 b, .int .i64 c] := by
  obtain ⟨f, rfl, _⟩ := ints_of (ts := List.replicate 3 3) (ks := List.replicate 3 .i64) Try.underlying42 rfl (by kernel_rfl) (by kernel_rfl) (by kernel_rfl) h
  exact ⟨f 0, f 1, f 2, by kernel_rfl⟩
theorem QSays_any (t : Tm) (a b : Int) (w : World) : Calls Try.prog 9 #[.agg t.cells, .int .i64 a, .int .i64 b] w (Ret (.bool true) w) := ret_of_con qsays_holds rfl ⟨t, a, b, rfl, rfl⟩ w
theorem Never_any (t : Tm) (a b c : Int) (w : World) : Calls Try.prog 10 #[.agg t.cells, .agg #[.int .i64 a, .int .i64 b, .int .i64 c]] w (Ret (.bool true) w) := ret_of_con never_holds rfl ⟨t, a, b, c, rfl, rfl⟩ w
theorem QKnown_any (w : World) : Calls Try.prog 11 #[] w (Ret (.bool true) w) := ret_of_con qknown_holds rfl ⟨rfl, rfl⟩ w
end Go.Proofs.Ytigpdnbcjmcfoaa

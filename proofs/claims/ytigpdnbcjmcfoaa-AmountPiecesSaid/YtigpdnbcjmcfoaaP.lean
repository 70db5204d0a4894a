/- What is proved: ints that come in have the shapes of the walks. No condition. -/
import Derived.Test.YtigpdnbcjmcfoaaRows
import Derived.Test.YtigpdnbcjmcfoaaShape
import Derived.Test.YtigpdnbcjmcfoaaShapeB
import Derived.Test.YtigpdnbcjmcfoaaA5
namespace Go.Proofs.Ytigpdnbcjmcfoaa
open Go.ChangeShapes Go.WideShapes Go.ChangeAt Go.RowKit Sx

theorem own : ownKnob Try.prog.godebug = none := by kernel_rfl
theorem laidOut : laidOutB Try.prog = true := by kernel_rfl
theorem int_of {w : World} {r : Reach} {base : Nat} {v : Value} (h : Value.okWide Try.prog w r base 3 v) : ∃ n : Int, n ≤ 9223372036854775807 ∧ v = .int .i64 n := by
  obtain ⟨n, rfl⟩ := okWide_int Try.underlying3 h
  refine ⟨n, ?_, rfl⟩
  simp only [Value.okWide, Try.underlying3, Cell.okWide, Cell.ok] at h
  have := h.2.2
  simpa using this
theorem Back_any (a b : Int) (w : World) : Calls Try.prog 5 #[.int .i64 a, .int .i64 b] w (Ret (.bool true) w) := ret_of_con back_holds rfl ⟨a, b, rfl, rfl⟩ w
theorem Parts_any (a b p : Int) (w : World) : Calls Try.prog 4 #[.int .i64 a, .int .i64 b, .int .i64 p] w (Ret (.bool true) w) := ret_of_con parts_holds rfl ⟨a, b, p, rfl, rfl⟩ w
theorem Says_any (a b : Int) (hb : b ≤ 9223372036854775807) (w : World) : Calls Try.prog 7 #[.int .i64 a, .int .i64 b] w (Ret (.bool true) w) := ret_of_con says_holds rfl ⟨a, b, hb, rfl, rfl⟩ w
end Go.Proofs.Ytigpdnbcjmcfoaa

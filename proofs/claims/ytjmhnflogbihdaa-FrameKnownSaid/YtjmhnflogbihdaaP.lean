/- What is proved: two facts of the program that every frame wants. No condition. -/
import Derived.Test.YtjmhnflogbihdaaRows
import Derived.Test.YtjmhnflogbihdaaShapeB
import Derived.Test.YtjmhnflogbihdaaB1
namespace Go.Proofs.Ytjmhnflogbihdaa
open Go.ChangeShapes Go.WideShapes Go.ChangeAt Go.RowKit

theorem own : ownKnob Try.prog.godebug = none := by kernel_rfl
theorem laidOut : laidOutB Try.prog = true := by kernel_rfl
end Go.Proofs.Ytjmhnflogbihdaa

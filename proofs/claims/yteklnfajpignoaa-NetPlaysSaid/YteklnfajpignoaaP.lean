/- What is proved: what the frames of layer 27 have in common. No condition. -/
import Derived.Test.YteklnfajpignoaaRows
import Derived.Test.YteklnfajpignoaaShapeM
namespace Go.Proofs.Yteklnfajpignoaa
open Go.ChangeShapes Go.WideShapes Go.ChangeAt Go.RowKit

theorem own : ownKnob Try.prog.godebug = none := by kernel_rfl
theorem laidOut : laidOutB Try.prog = true := by kernel_rfl
end Go.Proofs.Yteklnfajpignoaa

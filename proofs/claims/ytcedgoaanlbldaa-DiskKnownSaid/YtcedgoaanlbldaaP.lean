/- What is proved: what the frames of layer 15 have in common. No condition. -/
import Derived.Test.YtcedgoaanlbldaaRows
import Derived.Test.YtcedgoaanlbldaaShapeM
namespace Go.Proofs.Ytcedgoaanlbldaa
open Go.ChangeShapes Go.WideShapes Go.ChangeAt Go.RowKit

theorem own : ownKnob Try.prog.godebug = none := by kernel_rfl
theorem laidOut : laidOutB Try.prog = true := by kernel_rfl
end Go.Proofs.Ytcedgoaanlbldaa

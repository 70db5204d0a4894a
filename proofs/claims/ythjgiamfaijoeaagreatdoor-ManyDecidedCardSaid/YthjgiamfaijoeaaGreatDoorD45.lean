/- What is proved: parts of the walk and of the plain law. No condition but those each law names. -/
import Derived.Test.YthjgiamfaijoeaaGreatDoorRows
import Derived.SevenTiedAt
import Derived.KernelRfl
import Derived.Test.YthjgiamfaijoeaaGreatDoorD00
set_option linter.unusedSimpArgs false
set_option linter.unusedVariables false
set_option maxRecDepth 100000
namespace Go.Proofs.YthjgiamfaijoeaaGreatDoor
open Go
set_option linter.unusedVariables false
namespace lawManyDecided
theorem wfT : Rows.manyDecidedRow.wfByText (OpenSpec.ofChange Rows.manyDecidedSpec) = true := by kernel_rfl
theorem mainT : Tryz.prog.mainIs = some (true, "1b4b851c96a3dac6cfb6d43c7e3c22a30c089ab11074fcb6cbe144d162331a9f".toList) := by kernel_rfl
theorem looksT : true = Tryz.prog.looks [] := by kernel_rfl
theorem stand3 : Tryz.prog.wantsStandIn 3 = false := by kernel_rfl
theorem zadt : Tryz.prog.wantsStandIn 22 = false := by kernel_rfl
theorem goesT : false = Rows.manyDecidedRow.goesBy Tryz.prog := by kernel_rfl
end lawManyDecided
end Go.Proofs.YthjgiamfaijoeaaGreatDoor

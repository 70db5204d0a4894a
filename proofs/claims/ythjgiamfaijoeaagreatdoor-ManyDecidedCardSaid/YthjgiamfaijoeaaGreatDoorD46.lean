/- What is proved: parts of the walk and of the plain law. No condition but those each law names. -/
import Derived.Test.YthjgiamfaijoeaaGreatDoorD44
import Derived.Test.YthjgiamfaijoeaaGreatDoorD45
import Derived.Test.YthjgiamfaijoeaaGreatDoorCards
import Derived.Test.YthjgiamfaijoeaaGreatDoorTie
import Derived.Test.YthjgiamfaijoeaaGreatDoorD00
set_option linter.unusedSimpArgs false
set_option linter.unusedVariables false
set_option maxRecDepth 100000
namespace Go.Proofs.YthjgiamfaijoeaaGreatDoor
open Go.ChangeShapes Go.WideShapes Go.ChangeAt Go.RowKit
set_option linter.unusedVariables false
namespace lawManyDecided
theorem hlT (f : FuncId) (fn : Func) (hf : Tryz.prog.funcNamed Rows.manyDecidedRow.func = some f) (hfn : Tryz.prog.funcs[f]? = some fn) : true = Tryz.prog.looks [] ∧ ∀ (j : Nat) t, fn.params[j]? = some t → Tryz.prog.wantsStandIn t = false := by
  obtain rfl : f = 5 := Option.some.inj (named.symm.trans hf) |>.symm
  obtain rfl : fn = Tryz.f5 := (Option.some.inj (Tryz.func5.symm.trans hfn)).symm
  refine ⟨looksT, fun j t ht => ?_⟩
  rw [Tryz.params5] at ht
  have hm : t = 3 ∨ t = 22 := by simpa using Array.mem_of_getElem? ht
  rcases hm with rfl | rfl
  · exact stand3
  · exact zadt
theorem proved : Rows.ManyDecidedCardSaid :=
  Claim7.holds_tied_plain_at .later [] [.widerDeep, .data, .widerDeep] true (true, "1b4b851c96a3dac6cfb6d43c7e3c22a30c089ab11074fcb6cbe144d162331a9f") true
    over (fun _ h => by cases h) wfT (fun _ h => by cases h) manyDecided_row_tie rfl ⟨rfl, rfl⟩ mainT rfl hlT goesT
end lawManyDecided
#print axioms lawManyDecided.proved
end Go.Proofs.YthjgiamfaijoeaaGreatDoor

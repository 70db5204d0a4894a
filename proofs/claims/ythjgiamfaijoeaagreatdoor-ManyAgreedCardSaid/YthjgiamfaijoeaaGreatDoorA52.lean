/- What is proved: parts of the walk and of the plain law. No condition but those each law names. -/
import Derived.Test.YthjgiamfaijoeaaGreatDoorA50
import Derived.Test.YthjgiamfaijoeaaGreatDoorA51
import Derived.Test.YthjgiamfaijoeaaGreatDoorCards
import Derived.Test.YthjgiamfaijoeaaGreatDoorTie
import Derived.Test.YthjgiamfaijoeaaGreatDoorA00
set_option linter.unusedSimpArgs false
set_option linter.unusedVariables false
namespace Go.Proofs.YthjgiamfaijoeaaGreatDoor
open Go.ChangeShapes Go.WideShapes Go.ChangeAt Go.RowKit
set_option linter.unusedVariables false
set_option maxRecDepth 100000
namespace lawManyAgreed
theorem hlT (f : FuncId) (fn : Func) (hf : Tryz.prog.funcNamed Rows.manyAgreedRow.func = some f) (hfn : Tryz.prog.funcs[f]? = some fn) : true = Tryz.prog.looks [] ∧ ∀ (j : Nat) t, fn.params[j]? = some t → Tryz.prog.wantsStandIn t = false := by
  obtain rfl : f = 3 := Option.some.inj (named.symm.trans hf) |>.symm
  obtain rfl : fn = Tryz.f3 := (Option.some.inj (Tryz.func3.symm.trans hfn)).symm
  refine ⟨looksT, fun j t ht => ?_⟩
  rw [Tryz.params3] at ht
  have hm : t = 3 ∨ t = 22 := by simpa using Array.mem_of_getElem? ht
  rcases hm with rfl | rfl
  · exact stand3
  · exact zac6
theorem proved : Rows.ManyAgreedCardSaid :=
  Claim7.holds_tied_plain_at .later [] [.widerDeep, .data, .widerDeep] true (true, "1b4b851c96a3dac6cfb6d43c7e3c22a30c089ab11074fcb6cbe144d162331a9f") true
    over (fun _ h => by cases h) wfT (fun _ h => by cases h) manyAgreed_row_tie rfl ⟨rfl, rfl⟩ mainT rfl hlT goesT
end lawManyAgreed
#print axioms lawManyAgreed.proved
end Go.Proofs.YthjgiamfaijoeaaGreatDoor

/- What is proved: contracts of the small functions of layer 14. No condition but those each law names. -/
import Derived.Test.YtiancafoipllbaaFC
import Derived.Test.YtiancafoipllbaaChecked
import Derived.WalkKit
import Derived.WalkSpells
import Derived.WalkLawsBesides
import Derived.Handy
namespace Go.Proofs.Ytiancafoipllbaa
open Go.RowKit
namespace Fl

/-- A comparison of floats, in words of its own. -/
theorem cmp_eql (t : TypeId) (a b : Nat) : binOp .eql t (.float .f64 a) (.float .f64 b) = pure (.bool (eqB a b)) := by rw [binOp_float_cmp_eql]; rfl
theorem cmp_neq (t : TypeId) (a b : Nat) : binOp .neq t (.float .f64 a) (.float .f64 b) = pure (.bool (!eqB a b)) := by rw [binOp_float_cmp_neq]; rfl
theorem cmp_lss (t : TypeId) (a b : Nat) : binOp .lss t (.float .f64 a) (.float .f64 b) = pure (.bool (ltB a b)) := by rw [binOp_float_cmp_lss]; rfl
theorem cmp_leq (t : TypeId) (a b : Nat) : binOp .leq t (.float .f64 a) (.float .f64 b) = pure (.bool (leB a b)) := by rw [binOp_float_cmp_leq]; rfl
theorem cmp_gtr (t : TypeId) (a b : Nat) : binOp .gtr t (.float .f64 a) (.float .f64 b) = pure (.bool (gtB a b)) := by rw [binOp_float_cmp_gtr]; rfl
theorem cmp_geq (t : TypeId) (a b : Nat) : binOp .geq t (.float .f64 a) (.float .f64 b) = pure (.bool (geB a b)) := by rw [binOp_float_cmp_geq]; rfl
end Fl
attribute [-go_sem] binOp_float_cmp_eql binOp_float_cmp_neq binOp_float_cmp_lss binOp_float_cmp_leq binOp_float_cmp_gtr binOp_float_cmp_geq
attribute [local go_sem] Fl.cmp_eql Fl.cmp_neq Fl.cmp_lss Fl.cmp_leq Fl.cmp_gtr Fl.cmp_geq
open Fl

/-- Is a rate right? -/
def okB (r : Nat) : Bool := geB r 0 && leB r 4696837146684686336
theorem okB_eq {r : Nat} (h : r < 2 * NEG) : okB r = decide (okW r) := chk_iff h
def chk (r : Nat) : Int := if okB r then 0 else 15
set_option maxRecDepth 100000 in
theorem check_any (r : Nat) (w : World) : Calls Try.prog 16 #[.float .f64 r] w fun e w' => e = .returned (.int .i64 (chk r)) ∧ w' = w := by
  unfold chk okB
  go_enter Try.func16, Try.ntmps16
  cases h1 : geB r 0 <;> cases h2 : leB r 4696837146684686336 <;> (go_wp2; all_goals go_ret) <;> exact ⟨rfl, rfl⟩
/-- A rate that is not -0. -/
def plainW (r : Nat) : Nat := if eqB r 0 then 0 else r
set_option maxRecDepth 100000 in
theorem plain_any (r : Nat) (w : World) : Calls Try.prog 33 #[.float .f64 r] w fun e w' => e = .returned (.float .f64 (plainW r)) ∧ w' = w := by
  unfold plainW
  go_enter Try.func33, Try.ntmps33
  cases h1 : eqB r 0 <;> (go_wp2; all_goals go_ret) <;> exact ⟨rfl, rfl⟩
set_option maxRecDepth 100000 in
theorem right_any (r : Nat) (w : World) : Calls Try.prog 30 #[.float .f64 r] w fun e w' => e = .returned (.bool (eqB r r && (!ltB r 0 && !gtB r 4696837146684686336))) ∧ w' = w := by
  go_enter Try.func30, Try.ntmps30
  cases h1 : eqB r r <;> cases h2 : ltB r 0 <;> cases h3 : gtB r 4696837146684686336 <;> (go_wp2; all_goals go_ret) <;> exact ⟨rfl, rfl⟩
end Go.Proofs.Ytiancafoipllbaa

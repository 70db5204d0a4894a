/- What is proved: contracts of cmp.Less and of the insertion sort at floats: it computes what the library's plain function does. No condition but those each law names. -/
import Derived.Sort.Row
import Derived.Sort.LotA
import Derived.BigGuard
import Derived.BigCall
import Derived.CellFam
import Derived.Deep.Draws
import Derived.Deep.QuietTactic
import Derived.BigQuiet
import Derived.Test.YtiancafoipllbaaR1
namespace Go.Proofs.Ytiancafoipllbaa
open Go.RowKit Go.Sort Fl
attribute [-go_sem] binOp_float_cmp_eql binOp_float_cmp_neq binOp_float_cmp_lss binOp_float_cmp_leq binOp_float_cmp_gtr binOp_float_cmp_geq
attribute [local go_sem] Fl.cmp_eql Fl.cmp_neq Fl.cmp_lss Fl.cmp_leq Fl.cmp_gtr Fl.cmp_geq
set_option maxRecDepth 100000

theorem store_float (P : Program) (w : World) (a : Addr) (m : Mode) (b : Nat) : (store a (.float .f64 b) m).run P w = stored P w a (.float .f64 b) m := run_store P w a _ m rfl
def flV (b : Nat) : Value := .float .f64 b
/-- Less: NaNs come first. -/
def lessW (a b : Nat) : Bool := (!eqB a a && eqB b b) || ltB a b
theorem lessW_fin {a b : Nat} (ha : a < INF) (hb : b < INF) : lessW a b = decide (a < b) := by
  unfold lessW
  rw [eqB_fin ha ha, decide_eq_true rfl, ltB_fin ha hb]
  rfl
/-- Words of finite floats that are no less than nought, nor minus nought. -/
def Fn : Type := {n : Nat // n < INF}
instance : Inhabited Fn := ⟨⟨0, by decide⟩⟩
def flF (x : Fn) : Value := .float .f64 x.1
def ltF (x y : Fn) : Bool := decide (x.1 < y.1)
theorem lessW_fn (x y : Fn) : lessW x.1 y.1 = ltF x y := lessW_fin x.2 y.2
theorem swoF : SWO ltF :=
  ⟨fun x => decide_eq_false (Nat.lt_irrefl _), fun x y z h1 h2 => decide_eq_true (Nat.lt_trans (of_decide_eq_true h1) (of_decide_eq_true h2)),
   fun x y z h1 h2 => decide_eq_false (by have := of_decide_eq_false h1; have := of_decide_eq_false h2; omega)⟩
theorem nan_any (r : Nat) (w : World) : Calls Try.prog 64 #[.float .f64 r] w fun e w' => e = .returned (.bool (!eqB r r)) ∧ w' = w := by
  go_enter Try.func64, Try.ntmps64
  go_wp2
  all_goals go_ret
  all_goals exact ⟨rfl, rfl⟩
theorem less_any (a b : Nat) (w : World) : Calls Try.prog 52 #[.float .f64 a, .float .f64 b] w fun e w' => e = .returned (.bool (lessW a b)) ∧ w' = w := by
  unfold lessW
  go_enter Try.func52, Try.ntmps52
  cases h1 : eqB a a <;> cases h2 : eqB b b <;> cases h3 : ltB a b <;>
    (go_wp2_with (go_at_call 64; refine (nan_any _ _).mono ?_; rintro _ _ ⟨rfl, rfl⟩; simp only [h1, h2, Bool.not_true, Bool.not_false]); all_goals go_ret) <;> exact ⟨rfl, rfl⟩
end Go.Proofs.Ytiancafoipllbaa

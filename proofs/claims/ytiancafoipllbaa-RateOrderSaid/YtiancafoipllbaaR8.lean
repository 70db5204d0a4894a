/- What is proved: contracts of math's small functions (Ceil, Floor, bits of floats), of the rate package's Fee, Of and Bump, and of the document's. No condition but those each law names. -/
import Derived.Laws.Externs
import Derived.Test.YtiancafoipllbaaFE
import Derived.Test.YtiancafoipllbaaR7
namespace Go.Proofs.Ytiancafoipllbaa
open Go.RowKit Fl Ieee
attribute [-go_sem] binOp_float_cmp_eql binOp_float_cmp_neq binOp_float_cmp_lss binOp_float_cmp_leq binOp_float_cmp_gtr binOp_float_cmp_geq
attribute [local go_sem] Fl.cmp_eql Fl.cmp_neq Fl.cmp_lss Fl.cmp_leq Fl.cmp_gtr Fl.cmp_geq
set_option maxRecDepth 100000

/-- math.Float64bits, math.Float64frombits. -/
theorem ext_bits (b : Nat) (w : World) : (callFunc 31 #[.float .f64 b]).run Try.prog w = .ok (.value (.int .u64 b)) w := by
  rw [run_callFunc_extern Try.func31 (by kernel_rfl) (by kernel_rfl) (by kernel_rfl) (show Extern.find Try.f31 = some Extern.MathFloatBits.float64bits by kernel_rfl)]
  rfl
theorem ext_from (n : Int) (w : World) : (callFunc 37 #[.int .u64 n]).run Try.prog w = .ok (.value (.float .f64 n.toNat)) w := by
  rw [run_callFunc_extern Try.func37 (by kernel_rfl) (by kernel_rfl) (by kernel_rfl) (show Extern.find Try.f37 = some Extern.MathFloatBits.float64frombits by kernel_rfl)]
  rfl
/-- A float that is a number. -/
def isNum (p : Nat) : Bool := match double.read p with | .number .. => true | _ => false
/-- What archCeil and archFloor make of what a word stands for; X: at a NaN. -/
def tiOf (way : Toward) (X : Bool → Nat → Sem Value) : Datum → Sem Value
  | .nan s t => X s t
  | d => pure (.float .f64 (double.write (d.integral way)))
theorem ext_ceil {p : Nat} (h : isNum p = true) (w : World) : (callFunc 42 #[.float .f64 p]).run Try.prog w = .ok (.value (.float .f64 (double.write ((double.read p).integral .up)))) w := by
  rw [run_callFunc_extern Try.func42 (by kernel_rfl) (by kernel_rfl) (by kernel_rfl) (show Extern.find Try.f42 = some (Extern.MathFloor.toIntegral "math.archCeil" .up) by kernel_rfl)]
  unfold isNum at h
  split at h
  · rename_i s m i hd
    obtain ⟨X, hX⟩ : ∃ X, Extern.MathFloor.toIntegral "math.archCeil" .up #[.float .f64 p] = tiOf .up X (double.read p) := ⟨_, rfl⟩
    rw [hX, hd]
    rfl
  · cases h
theorem ext_floor {p : Nat} (h : isNum p = true) (w : World) : (callFunc 44 #[.float .f64 p]).run Try.prog w = .ok (.value (.float .f64 (double.write ((double.read p).integral .down)))) w := by
  rw [run_callFunc_extern Try.func44 (by kernel_rfl) (by kernel_rfl) (by kernel_rfl) (show Extern.find Try.f44 = some (Extern.MathFloor.toIntegral "math.archFloor" .down) by kernel_rfl)]
  unfold isNum at h
  split at h
  · rename_i s m i hd
    obtain ⟨X, hX⟩ : ∃ X, Extern.MathFloor.toIntegral "math.archFloor" .down #[.float .f64 p] = tiOf .down X (double.read p) := ⟨_, rfl⟩
    rw [hX, hd]
    rfl
  · cases h
end Go.Proofs.Ytiancafoipllbaa

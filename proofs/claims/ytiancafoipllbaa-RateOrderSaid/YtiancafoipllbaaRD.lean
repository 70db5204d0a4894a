/- What is proved: RateSays answers true at any floats, fees and weights. No condition but those each law names. -/
import Derived.Test.YtiancafoipllbaaRC
import Derived.Test.YtiancafoipllbaaGrow
import Derived.Lib.Hide
namespace Go.Proofs.Ytiancafoipllbaa
open Go.RowKit Fl Ieee
attribute [-go_sem] binOp_float_cmp_eql binOp_float_cmp_neq binOp_float_cmp_lss binOp_float_cmp_leq binOp_float_cmp_gtr binOp_float_cmp_geq
attribute [local go_sem] Fl.cmp_eql Fl.cmp_neq Fl.cmp_lss Fl.cmp_leq Fl.cmp_gtr Fl.cmp_geq
set_option maxRecDepth 100000

theorem check_says (r : Nat) (h : r < 2 * NEG) : ∃ c : Int, (∀ w, Calls Try.prog 16 #[.float .f64 r] w fun x w' => x = .returned (.int .i64 c) ∧ w' = w) ∧ (∀ w, Calls Try.prog 23 #[.float .f64 r] w fun x w' => x = .returned (.int .i64 c) ∧ w' = w) := by
  refine ⟨chk r, check_any r, ?_⟩
  have h1 := refcheck_any r
  rw [rightB_eq h] at h1
  exact h1
theorem below_drewN {b : Nat} {a w : World} (h : Below b a w) (n : Nat) : Below b a (w.drewN n) := ⟨h.os, h.tape, h.output, h.size, h.block⟩
set_option maxHeartbeats 2000000 in
theorem Says_any (r m : Nat) (fee weight : Int) (hr : r < 2 * NEG) (hm : m < 2 * NEG) (w : World) :
    Calls Try.prog 7 #[.agg #[.float .f64 r, .float .f64 m, .int .i64 fee, .int .i64 weight]] w (Ret (.bool true) w) := by
  obtain ⟨a, e, f1, f2⟩ := fee_says r weight hr
  obtain ⟨c, g, o1, o2⟩ := of_says fee weight
  obtain ⟨x, i, b1, b2⟩ := bump_says r m hr hm
  obtain ⟨k, c1, c2⟩ := check_says r hr
  have F1 := Lib.hid f1
  have F2 := Lib.hid f2
  have O1 := Lib.hid o1
  have O2 := Lib.hid o2
  have B1 := Lib.hid b1
  have B2 := Lib.hid b2
  have C1 := Lib.hid c1
  have C2 := Lib.hid c2
  clear f1 f2 o1 o2 b1 b2 c1 c2
  go_enter Try.func7, Try.ntmps7
  go_wp2
  go_quiet (fail)
  go_wp2_with (first
    | (go_at_call 15; refine (F1.out _).mono ?_; rintro _ _ ⟨rfl, rfl⟩)
    | (go_at_call 19; refine (F2.out _).mono ?_; rintro _ _ ⟨rfl, rfl⟩)
    | (go_at_call 20; refine (O1.out _).mono ?_; rintro _ _ ⟨rfl, rfl⟩)
    | (go_at_call 21; refine (O2.out _).mono ?_; rintro _ _ ⟨rfl, rfl⟩)
    | (go_at_call 17; refine (B1.out _).mono ?_; rintro _ _ ⟨rfl, rfl⟩)
    | (go_at_call 22; refine (B2.out _).mono ?_; rintro _ _ ⟨rfl, rfl⟩)
    | (go_at_call 16; refine (C1.out _).mono ?_; rintro _ _ ⟨rfl, rfl⟩)
    | (go_at_call 23; refine (C2.out _).mono ?_; rintro _ _ ⟨rfl, rfl⟩)
    | (go_at_call 13; refine (same_self _ _).mono ?_; rintro _ _ ⟨rfl, rfl⟩)
    | (go_at_call 10; refine (known_any _).mono ?_; rintro _ W ⟨rfl, hB⟩))
  go_ret
  exact Ret.mk_of ((below_drewN ((Below.refl _ w).alloc (Nat.le_refl _) _) nq).trans (hB.mono (by simp))) rfl
end Go.Proofs.Ytiancafoipllbaa

/- What is proved: the contract of 'known' of chapter 2's statements. No condition. -/
import Derived.Test.YtigpdnbcjmcfoaaA3
namespace Go.Proofs.Ytigpdnbcjmcfoaa
open Go.RowKit Sx
set_option maxRecDepth 100000

theorem Part_any (a b : Int) (w : World) : Calls Try.prog 17 #[.int .i64 a, .int .i64 b] w (Ret (pairV (partV a b)) w) := ret_of_con part_holds rfl ⟨a, b, rfl, rfl⟩ w
theorem Part_known (w : World) : Calls Try.prog 17 #[.int .i64 1000001, .int .i64 1] w (Ret (.tuple #[.int .i64 2, .int .i64 0]) w) := by
  have := Part_any 1000001 1 w
  rwa [show partV 1000001 1 = (2, 0) by kernel_rfl] at this
theorem Add_known (w : World) : Calls Try.prog 18 #[.int .i64 1125899906842624, .int .i64 1] w (Ret (.tuple #[.int .i64 0, .int .i64 15]) w) := by
  have := Add_any 1125899906842624 1 w
  rwa [show sumV 1125899906842624 1 = (0, 15) by kernel_rfl] at this
theorem Total_known {w : World} {ao : Option Addr} {c : Nat} (hl : Sl w ao 2 c (its [562949953421312, 562949953421312])) : Calls Try.prog 14 #[.slice ao 2 c] w (Ret (.tuple #[.int .i64 1125899906842624, .int .i64 0]) w) := by
  have := Total_any hl (by decide)
  rwa [show totV [562949953421312, 562949953421312] = (1125899906842624, 0) by kernel_rfl] at this
set_option maxHeartbeats 1000000 in
theorem known_any (w : World) : Calls Try.prog 12 #[] w (Ret (.bool true) w) := by
  go_enter Try.func12, Try.ntmps12
  go_wp2_with (first
    | (go_at_call 17; refine (Part_known _).mono ?_; rintro _ _ ⟨rfl, g1, rfl⟩)
    | (go_at_call 18; refine (Add_known _).mono ?_; rintro _ _ ⟨rfl, g2, rfl⟩)
    | (go_at_call 14; refine (Total_known (built_at _ [562949953421312, 562949953421312] _ (by simp [maxLen]) rfl rfl rfl)).mono ?_; rintro _ _ ⟨rfl, g3, rfl⟩))
  go_ret
  refine Ret.mk ?_
  exact g3.up (((g2.up g1.below)).alloc (Nat.le_trans g1.size g2.size) _)
def nilS (v : Value) : ConS := fun vs e => vs = [] ∧ e = Env.ofL [v]
def b0C (f : FuncId) : Con := mkCon f [] (.bool (.var 0))
theorem known_holds : (b0C 12).holds Try.prog (nilS (.bool true)) := con_of_ret (by rintro _ _ ⟨rfl, rfl⟩ w; exact known_any w) rfl
end Go.Proofs.Ytigpdnbcjmcfoaa

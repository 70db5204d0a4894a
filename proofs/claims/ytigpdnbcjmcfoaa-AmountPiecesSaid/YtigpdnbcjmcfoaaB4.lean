/- What is proved: the walk of the statement AmountTotals (chapter 2). No condition. -/
import Derived.Test.YtigpdnbcjmcfoaaB3
import Derived.Test.YtigpdnbcjmcfoaaA4
namespace Go.Proofs.Ytigpdnbcjmcfoaa
open Go.RowKit Sx
attribute [local go_sem ↓] cutA_zero

theorem Total_pair {w : World} {ao : Option Addr} {n c : Nat} {l : List Int} (hl : Sl w ao n c (its l)) (hn : n < 1099511627776) : Calls Try.prog 14 #[.slice ao n c] w (Ret (.tuple #[.int .i64 (totV l).1, .int .i64 (totV l).2]) w) := Total_any hl hn
theorem refTotal_pair {w : World} {ao : Option Addr} {n c : Nat} {l : List Int} (hl : Sl w ao n c (its l)) (hn : n < 1099511627776) : Calls Try.prog 15 #[.slice ao n c] w (Ret (.tuple #[.int .i64 (totV l).1, .int .i64 (totV l).2]) w) := refTotal_any hl hn
set_option maxHeartbeats 1000000 in
theorem Totals_any {w : World} {ao : Option Addr} {n c : Nat} {l : List Int} (hl : Sl w ao n c (its l)) (hmax : n ≤ 9223372036854775807) : Calls Try.prog 3 #[.slice ao n c] w (Ret (.bool true) w) := by
  have hln : l.length = n := by rw [← hl.len, its_length]
  by_cases hn : n ≤ 4096
  · have h0 : ¬ ((4096 : Int) < n) := by omega
    go_enter Try.func3, Try.ntmps3
    go_wp2_with (go_at_call 13; refine (LentInts_any hl (by omega)).mono ?_; rintro _ w1 ⟨ao1, cap1, rfl, hb1, hown1⟩; have s1 := Sl.own hown1; have hcap := s1.le; have hc0 : (n : Int) ≤ cap1 := (by omega))
    have s2 : Sl w1 ao1 n cap1 (its l) := s1.frontI (by omega) (by omega) (Nat.le_refl _) (by rw [← hln]; simp)
    go_wp2_with (first
      | (go_at_call 14; refine (Total_pair s2 (by omega)).mono ?_; rintro _ _ ⟨rfl, g2, rfl⟩)
      | (go_at_call 15; refine (refTotal_pair ((hl.keep (Nat.le_refl _) hb1).ext g2) (by omega)).mono ?_; rintro _ _ ⟨rfl, g3, rfl⟩)
      | (go_at_call 16; refine (KeptInts_true ((s1.ext g2).ext g3) (((hl.keep (Nat.le_refl _) hb1).ext g2).ext g3) (by omega)).mono ?_; rintro _ _ ⟨rfl, g4, rfl⟩)
      | (go_at_call 12; refine (known_any _).mono ?_; rintro _ _ ⟨rfl, g5, rfl⟩))
    go_ret
    exact Ret.mk (g5.up (g4.up (g3.up (g2.up hb1))))
  · have h0 : (4096 : Int) < n := by omega
    go_enter Try.func3, Try.ntmps3
    go_wp2_with (go_at_call 12; refine (known_any _).mono ?_; rintro _ _ ⟨rfl, g5, rfl⟩)
    go_ret
    exact Ret.mk g5.below
end Go.Proofs.Ytigpdnbcjmcfoaa

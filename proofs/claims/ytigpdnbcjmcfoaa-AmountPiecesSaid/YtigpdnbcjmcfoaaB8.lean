/- What is proved: what the statement AmountPieces returns (chapter 2). No condition. -/
import Derived.Test.YtigpdnbcjmcfoaaB7
namespace Go.Proofs.Ytigpdnbcjmcfoaa
open Go.RowKit Sx
attribute [local go_sem ↓] cutA_zero
set_option maxRecDepth 100000 in
theorem Pieces_any {w : World} {ao : Option Addr} {n c : Nat} {l : List Int} (cut k : Int) (hl : Sl w ao n c (its l)) (hmax : n ≤ 9223372036854775807) : Calls Try.prog 6 #[.slice ao n c, .int .i64 cut, .int .i64 k] w (Ret (.bool true) w) := by
  by_cases hn : n ≤ 1024
  · refine Pieces_walk (C := (if 0 < (if (n : Int) < cut then (n : Int) else cut) then (if (n : Int) < cut then (n : Int) else cut) else 0).toNat) (N := (if 0 < (if 200 < k then 200 else k) then (if 200 < k then 200 else k) else 0).toNat) cut k _ _ hl hn rfl ?_ rfl ?_ ?_ ?_ rfl rfl rfl rfl (pieces l _)
    · split <;> omega
    · split <;> omega
    · split <;> (try split) <;> omega
    · split <;> (try split) <;> omega
  · have h0 : (1024 : Int) < n := by omega
    go_enter Try.func6, Try.ntmps6
    go_wp2_with fail
    refine (known_any _).mono ?_
    rintro _ _ ⟨rfl, g, rfl⟩
    go_wp2_with fail
    go_ret
    exact Ret.mk g.below
end Go.Proofs.Ytigpdnbcjmcfoaa

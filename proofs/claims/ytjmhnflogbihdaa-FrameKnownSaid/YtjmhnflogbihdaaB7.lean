/- What is proved: the walk of 'known' of layer 4's statements. No condition. -/
import Derived.Test.YtjmhnflogbihdaaB6
import Derived.Lib.SlBytesConst
namespace Go.Proofs.Ytjmhnflogbihdaa
open Go.RowKit

def F1 : List Nat := fr 2 [7, 8]
theorem F1_small : Small F1 := fr_small (by decide) (by decide) (small_of rfl)
theorem put_known : putL 2 [7, 8] = F1 := by kernel_rfl
theorem get_known_e : getE (F1 ++ [9]) = 0 := by kernel_rfl
theorem get_known_b : getB (F1 ++ [9]) = [7, 8] := by kernel_rfl
theorem get_known_k : getK (F1 ++ [9]) = 2 := by kernel_rfl
theorem get_known_m : getM (F1 ++ [9]) = 9 := by kernel_rfl
def ABC : List Nat := [49, 50, 51, 52, 53, 54, 55, 56, 57]
theorem sum_known : ((csum ABC : Nat) : Int) = 3808858755 := by kernel_rfl

theorem Put_known {w : World} {ao : Option Addr} {c : Nat} (hl : Sl w ao 2 c (bts [7, 8])) : Calls Try.prog 11 #[.int .i64 2, .slice ao 2 c] w (fun e w' => ∃ ao cap, e = .returned (.tuple #[.slice ao 9 cap, .int .i64 0]) ∧ Below w.heap.size w w' ∧ w'.ownsRow w.heap.size 5 1 (.slice ao 9 cap) 9 (bts F1)) := by
  have := Put_any 2 hl (small_of rfl) (by decide)
  unfold RetP at this
  rw [put_known] at this
  exact this
theorem Get_known {w : World} {ao : Option Addr} {c : Nat} (hl : Sl w ao 10 c (bts (F1 ++ [9]))) : Calls Try.prog 17 #[.slice ao 10 c] w (fun e w' => ∃ ao cap, e = .returned (.tuple #[.agg #[.int .i64 2, .slice ao 2 cap], .int .i64 9, .int .i64 0]) ∧ Below w.heap.size w w' ∧ w'.ownsRow w.heap.size 5 1 (.slice ao 2 cap) 2 (bts [7, 8])) := by
  have := Get_any hl (F1_small.append (small_of rfl)) (by decide)
  unfold RetG at this
  rw [get_known_e, get_known_b, get_known_k, get_known_m] at this
  exact this

theorem conv22 (w : World) (cs : Array Value) (n c k : Nat) (hk : k = w.heap.size) : (convert 22 22 (.slice (some ⟨k, 0, none⟩) n c)).run Try.prog (w.alloc (.cells cs 5)) = .ok (.slice (some ⟨k, 0, none⟩) n c) (w.alloc (.cells cs 5 (cs.size, cs.size + 1))) := by
  subst hk
  exact Go.Lib.run_convert_bytes_const w 22 5 cs n c Try.underlying22 Try.underlying5
attribute [local go_sem] conv22
theorem Sum_known {w : World} {k c : Nat} (hl : Sl w (some ⟨k, 0, none⟩) 9 c (bts ABC)) : Calls Try.prog 14 #[.slice (some ⟨k, 0, none⟩) 9 c] w (Ret (.int .u32 3808858755) w) := by
  have := Sum_any hl (small_of rfl) (by decide)
  rw [sum_known] at this
  exact this

set_option maxHeartbeats 2000000 in
theorem known_any (w : World) : Calls Try.prog 9 #[] w (Ret (.bool true) w) := by
  have k0 := below1 w (.cells #[.int .u8 7, .int .u8 8] 5)
  have o0 := own_new w w.heap.size 5 #[.int .u8 7, .int .u8 8] (Nat.le_refl _) (show 2 ≤ maxLen by decide)
  have s0 : Sl (w.alloc (.cells #[.int .u8 7, .int .u8 8] 5)) (some ⟨w.heap.size, 0, none⟩) 2 2 (bts [7, 8]) := Sl.own o0
  go_enter Try.func9, Try.ntmps9
  go_wp2_with (first
    | (go_at_call 11; refine (Put_known s0).mono ?_; rintro _ w1 ⟨ao1, cap1, rfl, hb1, hown1⟩; have k1 := k0.trans (hb1.mono (by simp)); have z1 := k1.size)
    | (go_at_call 18; refine (CopyBytes_any (Sl.own hown1) (by decide)).mono ?_; rintro _ w2 ⟨ao2, cap2, rfl, hb2, hown2⟩; have k2 := k1.trans (hb2.mono z1); have z2 := k2.size)
    | (at_builtin; refine wp_app1 elemB rfl _ _ rfl (B := w.heap.size) rfl (own_base hown2 z1) rfl rfl (by decide) z2 ?_; intro ao3 cap3 w3 hown3 hb3; have k3 := k2.trans hb3; have z3 := k3.size)
    | (go_at_call 17; refine (Get_known (Sl.own hown3)).mono ?_; rintro _ w4 ⟨ao4, cap4, rfl, hb4, hown4⟩; have k4 := k3.trans (hb4.mono z3); have z4 := k4.size)
    | (go_at_call 14; refine (Sum_known (sl_marked (w4.alloc (.cells #[.int .i64 2, .slice ao4 2 cap4] 33)) #[.int .u8 49, .int .u8 50, .int .u8 51, .int .u8 52, .int .u8 53, .int .u8 54, .int .u8 55, .int .u8 56, .int .u8 57] 5 9 _ (9, 10) (by simp) rfl)).mono ?_; rintro _ _ ⟨rfl, g5, rfl⟩; have r0 : g5.val.cell? ⟨w4.heap.size, 0, none⟩ = some (.int .i64 2) := (g5.cell _ _ (by simp; omega)).trans (cell_two _ _ _ 0 _ _); have r1 : g5.val.cell? ⟨w4.heap.size, 1, none⟩ = some (.slice ao4 2 cap4) := (g5.cell _ _ (by simp; omega)).trans (cell_two _ _ _ 1 _ _); have b5 : Below w4.heap.size w4 g5.val := Ext.up g5 (((Below.refl _ _).alloc (Nat.le_refl _) _).alloc (by simp) _); have k5 := k4.trans (b5.mono z4); have z5 := k5.size)
    | (go_at_call 13; refine (SameBytes_any (l := [7, 8]) (k := [7, 8]) ((Sl.own hown4).keep (Nat.le_refl _) (b5.alloc b5.size _)) (Sl.own (own_new g5.val 0 5 #[.int .u8 7, .int .u8 8] (Nat.zero_le _) (show 2 ≤ maxLen by decide))) (by decide) (by decide)).mono ?_; rintro _ _ ⟨rfl, g6, rfl⟩))
  go_ret
  refine Ret.mk ?_
  exact g6.up (k5.alloc z5 _)
end Go.Proofs.Ytjmhnflogbihdaa

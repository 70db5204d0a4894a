/- What is proved: the walk of TimeoutSafe of layer 19, the role Second. -/
import Derived.Test.YtcbdoiiahbmneaaS1
namespace Go.Proofs.Ytcbdoiiahbmneaa
open Go.RowKit
attribute [local go_sem ↓] rowOf_cell

set_option maxRecDepth 100000 in
set_option maxHeartbeats 1000000 in
theorem Safe_second20 (t : T) (ht : t.Ok) (h1 : 0 ≤ t.lo) (h2 : t.hi ≤ 1024) (hf : 1 ≤ t.fast) (p q a b c x y : Int) (hP : pick p 3 = 2) (hG : (pick p 3 + 1 + pick q 2) % 3 = 0) (w : World) :
    Calls Try.prog 4 #[(.agg t.cells), .bool false, .int .i64 p, .int .i64 q, (.agg #[.int .i64 a, .int .i64 b, .int .i64 c]), .int .i64 x, .int .i64 y] w (Ret (.bool true) w) := by
  have ha := pick_bd a 1073741824 (by omega)
  have hb := pick_bd b 1073741824 (by omega)
  have hc := pick_bd c 1073741824 (by omega)
  have hm := ht.mar
  have hl := ht.long
  have hx := pick_bd x (3 * t.mar + 1) (by omega)
  have hxf : 0 ≤ pick x (3 * t.mar + 1) * t.fast ∧ pick x (3 * t.mar + 1) * t.fast ≤ 9440256 := by
    have h3 : pick x (3 * t.mar + 1) * t.fast ≤ pick x (3 * t.mar + 1) * 1024 := Int.mul_le_mul_of_nonneg_left ht.f1 hx.1
    exact ⟨Int.mul_nonneg hx.1 ht.f0, by omega⟩
  have hy := pick_bd y (pick x (3 * t.mar + 1) * t.fast + 1) (by omega)
  have hL := legs_second ht ha hb hc 2 0
  obtain ⟨_, _, _, _, _, hs0⟩ := left_two ht 2 0 (pick c 1073741824) (pick a 1073741824) 0 0 (clk (pick a 1073741824) (pick b 1073741824) (pick c 1073741824) 2 + 3 * t.mar) (clk (pick a 1073741824) (pick b 1073741824) (pick c 1073741824) 0 + t.long) rfl rfl ⟨by omega, by omega⟩ ⟨by omega, by omega⟩ (a := pick a 1073741824) (b := pick b 1073741824) (c := pick c 1073741824) (by simp [clk]) (by simp [clk])
  obtain ⟨hp1, hp2, hp3, hp4, hp5, hs1⟩ := left_two ht 2 0 (pick c 1073741824) (pick a 1073741824) (pick x (3 * t.mar + 1)) (pick y (pick x (3 * t.mar + 1) * t.fast + 1)) (clk (pick a 1073741824) (pick b 1073741824) (pick c 1073741824) 2 + 3 * t.mar) (clk (pick a 1073741824) (pick b 1073741824) (pick c 1073741824) 0 + t.long) rfl rfl ⟨by omega, by omega⟩ ⟨by omega, by omega⟩ (a := (pick a 1073741824 + pick y (pick x (3 * t.mar + 1) * t.fast + 1))) (b := (pick b 1073741824)) (c := (pick c 1073741824 + pick x (3 * t.mar + 1))) (by simp [clk]) (by simp [clk])
  simp only [D.timed] at hs0 hs1 hp1 hp2
  go_enter Try.func4, Try.ntmps4
  go_wp2_with (go_at_call 7; refine (Right_yes t h1 h2 _).mono ?_; rintro _ _ ⟨rfl, g, rfl⟩; have sg0 : w.heap.size < g.val.heap.size := (Nat.lt_of_lt_of_le (by go_size) g.size); have sg1 : w.heap.size + 1 < g.val.heap.size := (Nat.lt_of_lt_of_le (by go_size) g.size))
  refine wp_loop_rounds 4 ?_
  rw [rounds_succ]
  go_wp2_with (go_at_call 21; refine (Pick_same _ _ (by omega) (by omega) _).mono ?_; rintro _ _ ⟨rfl, rfl⟩)
  rw [rounds_succ]
  go_wp2_with (go_at_call 21; refine (Pick_same _ _ (by omega) (by omega) _).mono ?_; rintro _ _ ⟨rfl, rfl⟩)
  rw [rounds_succ]
  go_wp2_with (go_at_call 21; refine (Pick_same _ _ (by omega) (by omega) _).mono ?_; rintro _ _ ⟨rfl, rfl⟩)
  rw [rounds_succ]
  go_wp2_with (go_at_call 21; refine (Pick_same _ _ (by omega) (by omega) _).mono ?_; rintro _ _ ⟨rfl, rfl⟩)
  (refine wp_region_lay_tail 8 7 (fun N => .pointer (some ⟨N, 0, none⟩)) (.cells D.zero.cells 29) (by kernel_rfl) (by kernel_rfl) ?_; simp only [List.take_succ_cons, List.take_zero, List.drop_succ_cons, List.drop_zero]; (repeat (first | (refine grow_lay rfl (fun _ => rfl) (fun _ _ => (by simp [go_sem])) ?_; simp only [Act.put, List.setIfInBounds_toArray, List.set_cons_succ, List.set_cons_zero]) | (refine grow_step rfl (fun K hK => ?_); go_simp; (first | (refine hK _ ?_; clear hK K) | (apply Exists.intro; refine ⟨fun _ => ?_, hK _ ?_⟩; (first | (go_at_call 22; exact deal_at false p q 2 0 2 rfl hP hG _) | (go_at_call 17; exact Legs_any (D.at_ 2 2 0) t ht _ _ _ _)); clear hK K))))); refine (fun N w' hN lN eN ⟨g2, he⟩ => ?_); subst he; have rN := rowOf_of eN; have sN := soft_of eN; clear eN)
  have sg20 : w.heap.size < g2.val.heap.size := (Nat.lt_of_lt_of_le (by go_size) g2.size); have sg21 : w.heap.size + 1 < g2.val.heap.size := (Nat.lt_of_lt_of_le (by go_size) g2.size); have bN : w.heap.size ≤ N := (Nat.le_trans (by go_size) hN); have qN0 : w.heap.size < N := (Nat.lt_of_lt_of_le (by go_size) hN); have nN0 : ¬ w.heap.size = N := (Nat.ne_of_lt qN0); have mN0 : ¬ N = w.heap.size := (Nat.ne_of_gt qN0); have qN1 : w.heap.size + 1 < N := (Nat.lt_of_lt_of_le (by go_size) hN); have nN1 : ¬ w.heap.size + 1 = N := (Nat.ne_of_lt qN1); have mN1 : ¬ N = w.heap.size + 1 := (Nat.ne_of_gt qN1); clear hN
  go_wp2_with (first | (go_at_call 19; refine (Safe_any _ t ht _ _ _ _).mono ?_; rintro _ _ ⟨rfl, g3, rfl⟩; have sg30 : w.heap.size < g3.val.heap.size := (Nat.lt_of_lt_of_le (by go_size) g3.size); have sg31 : w.heap.size + 1 < g3.val.heap.size := (Nat.lt_of_lt_of_le (by go_size) g3.size); have sgN : N < g3.val.heap.size := (Nat.lt_of_lt_of_le (by go_size) g3.size)) | (go_at_call 13; refine (Short_any t ht _).mono ?_; rintro _ _ ⟨rfl, g4, rfl⟩; have sg40 : w.heap.size < g4.val.heap.size := (Nat.lt_of_lt_of_le (by go_size) g4.size); have sg41 : w.heap.size + 1 < g4.val.heap.size := (Nat.lt_of_lt_of_le (by go_size) g4.size); have sgN4 : N < g4.val.heap.size := (Nat.lt_of_lt_of_le (by go_size) g4.size)) | (go_at_call 21; refine (Pick_same _ _ (by omega) (by omega) _).mono ?_; rintro _ _ ⟨rfl, rfl⟩))
  (refine wp_region_grow_tail 11 (by kernel_rfl) (by kernel_rfl) ?_; simp only [List.take_succ_cons, List.take_zero, List.drop_succ_cons, List.drop_zero]; (repeat (go_big_quiet_step ((fail)))); refine wpQuiet_nil ?_; rintro _ ⟨g5, rfl⟩)
  have sg50 : w.heap.size < g5.val.heap.size := (Nat.lt_of_lt_of_le (by go_size) g5.size); have sg51 : w.heap.size + 1 < g5.val.heap.size := (Nat.lt_of_lt_of_le (by go_size) g5.size)
  have sgN5 : N < g5.val.heap.size := (Nat.lt_of_lt_of_le (by go_size) g5.size)
  go_wp2
  (refine wp_region_grow_tail 17 (by kernel_rfl) (by kernel_rfl) ?_; simp only [List.take_succ_cons, List.take_zero, List.drop_succ_cons, List.drop_zero]; (repeat (go_big_quiet_step (((go_at_call 21; exact Calls.ext_of (Pick_any _ _ (by omega) (by omega) _)))))); refine wpQuiet_nil ?_; rintro _ ⟨g6, rfl⟩)
  have sg60 : w.heap.size < g6.val.heap.size := (Nat.lt_of_lt_of_le (by go_size) g6.size); have sg61 : w.heap.size + 1 < g6.val.heap.size := (Nat.lt_of_lt_of_le (by go_size) g6.size)
  have sgN6 : N < g6.val.heap.size := (Nat.lt_of_lt_of_le (by go_size) g6.size)
  go_wp2_with (go_at_call 9; refine (Left_any _ _ _ _ _).mono ?_; rintro _ _ ⟨rfl, g7, rfl⟩; have sg70 : w.heap.size < g7.val.heap.size := (Nat.lt_of_lt_of_le (by go_size) g7.size); have sg71 : w.heap.size + 1 < g7.val.heap.size := (Nat.lt_of_lt_of_le (by go_size) g7.size); have sgN7 : N < g7.val.heap.size := (Nat.lt_of_lt_of_le (by go_size) g7.size))
  (refine wp_region_grow (by kernel_rfl) (by kernel_rfl) ?_; (repeat (go_big_quiet_step ((first | (go_at_call 13; exact Calls.ext_of (Short_any t ht _)) | (go_at_call 11; exact Calls.ext_of (Margin_any t ht _)) | (go_at_call 19; exact Calls.ext_of (Safe_any _ t ht _ _ _ _)) | (go_at_call 8; exact Calls.ext_of (works_any _)))))); refine wpQuiet_nil ?_; rintro _ ⟨g8, rfl⟩)
  go_wp2
  go_ret
  (refine Ret.mk ?_; (repeat' (first | (with_reducible exact Below.refl _ _) | (with_reducible assumption) | (with_reducible refine Ext.up _ ?_) | (with_reducible refine Below.alloc ?_ ?_ _) | (with_reducible refine Below.drew ?_) | (with_reducible refine Below.setCell ?_ ?_ _) | (with_reducible refine Below.setRow_ ?_ ?_ _) | go_size)))

set_option maxRecDepth 100000 in
set_option maxHeartbeats 1000000 in
theorem Safe_second21 (t : T) (ht : t.Ok) (h1 : 0 ≤ t.lo) (h2 : t.hi ≤ 1024) (hf : 1 ≤ t.fast) (p q a b c x y : Int) (hP : pick p 3 = 2) (hG : (pick p 3 + 1 + pick q 2) % 3 = 1) (w : World) :
    Calls Try.prog 4 #[(.agg t.cells), .bool false, .int .i64 p, .int .i64 q, (.agg #[.int .i64 a, .int .i64 b, .int .i64 c]), .int .i64 x, .int .i64 y] w (Ret (.bool true) w) := by
  have ha := pick_bd a 1073741824 (by omega)
  have hb := pick_bd b 1073741824 (by omega)
  have hc := pick_bd c 1073741824 (by omega)
  have hm := ht.mar
  have hl := ht.long
  have hx := pick_bd x (3 * t.mar + 1) (by omega)
  have hxf : 0 ≤ pick x (3 * t.mar + 1) * t.fast ∧ pick x (3 * t.mar + 1) * t.fast ≤ 9440256 := by
    have h3 : pick x (3 * t.mar + 1) * t.fast ≤ pick x (3 * t.mar + 1) * 1024 := Int.mul_le_mul_of_nonneg_left ht.f1 hx.1
    exact ⟨Int.mul_nonneg hx.1 ht.f0, by omega⟩
  have hy := pick_bd y (pick x (3 * t.mar + 1) * t.fast + 1) (by omega)
  have hL := legs_second ht ha hb hc 2 1
  obtain ⟨_, _, _, _, _, hs0⟩ := left_two ht 2 1 (pick c 1073741824) (pick b 1073741824) 0 0 (clk (pick a 1073741824) (pick b 1073741824) (pick c 1073741824) 2 + 3 * t.mar) (clk (pick a 1073741824) (pick b 1073741824) (pick c 1073741824) 1 + t.long) rfl rfl ⟨by omega, by omega⟩ ⟨by omega, by omega⟩ (a := pick a 1073741824) (b := pick b 1073741824) (c := pick c 1073741824) (by simp [clk]) (by simp [clk])
  obtain ⟨hp1, hp2, hp3, hp4, hp5, hs1⟩ := left_two ht 2 1 (pick c 1073741824) (pick b 1073741824) (pick x (3 * t.mar + 1)) (pick y (pick x (3 * t.mar + 1) * t.fast + 1)) (clk (pick a 1073741824) (pick b 1073741824) (pick c 1073741824) 2 + 3 * t.mar) (clk (pick a 1073741824) (pick b 1073741824) (pick c 1073741824) 1 + t.long) rfl rfl ⟨by omega, by omega⟩ ⟨by omega, by omega⟩ (a := (pick a 1073741824)) (b := (pick b 1073741824 + pick y (pick x (3 * t.mar + 1) * t.fast + 1))) (c := (pick c 1073741824 + pick x (3 * t.mar + 1))) (by simp [clk]) (by simp [clk])
  simp only [D.timed] at hs0 hs1 hp1 hp2
  go_enter Try.func4, Try.ntmps4
  go_wp2_with (go_at_call 7; refine (Right_yes t h1 h2 _).mono ?_; rintro _ _ ⟨rfl, g, rfl⟩; have sg0 : w.heap.size < g.val.heap.size := (Nat.lt_of_lt_of_le (by go_size) g.size); have sg1 : w.heap.size + 1 < g.val.heap.size := (Nat.lt_of_lt_of_le (by go_size) g.size))
  refine wp_loop_rounds 4 ?_
  rw [rounds_succ]
  go_wp2_with (go_at_call 21; refine (Pick_same _ _ (by omega) (by omega) _).mono ?_; rintro _ _ ⟨rfl, rfl⟩)
  rw [rounds_succ]
  go_wp2_with (go_at_call 21; refine (Pick_same _ _ (by omega) (by omega) _).mono ?_; rintro _ _ ⟨rfl, rfl⟩)
  rw [rounds_succ]
  go_wp2_with (go_at_call 21; refine (Pick_same _ _ (by omega) (by omega) _).mono ?_; rintro _ _ ⟨rfl, rfl⟩)
  rw [rounds_succ]
  go_wp2_with (go_at_call 21; refine (Pick_same _ _ (by omega) (by omega) _).mono ?_; rintro _ _ ⟨rfl, rfl⟩)
  (refine wp_region_lay_tail 8 7 (fun N => .pointer (some ⟨N, 0, none⟩)) (.cells D.zero.cells 29) (by kernel_rfl) (by kernel_rfl) ?_; simp only [List.take_succ_cons, List.take_zero, List.drop_succ_cons, List.drop_zero]; (repeat (first | (refine grow_lay rfl (fun _ => rfl) (fun _ _ => (by simp [go_sem])) ?_; simp only [Act.put, List.setIfInBounds_toArray, List.set_cons_succ, List.set_cons_zero]) | (refine grow_step rfl (fun K hK => ?_); go_simp; (first | (refine hK _ ?_; clear hK K) | (apply Exists.intro; refine ⟨fun _ => ?_, hK _ ?_⟩; (first | (go_at_call 22; exact deal_at false p q 2 1 2 rfl hP hG _) | (go_at_call 17; exact Legs_any (D.at_ 2 2 1) t ht _ _ _ _)); clear hK K))))); refine (fun N w' hN lN eN ⟨g2, he⟩ => ?_); subst he; have rN := rowOf_of eN; have sN := soft_of eN; clear eN)
  have sg20 : w.heap.size < g2.val.heap.size := (Nat.lt_of_lt_of_le (by go_size) g2.size); have sg21 : w.heap.size + 1 < g2.val.heap.size := (Nat.lt_of_lt_of_le (by go_size) g2.size); have bN : w.heap.size ≤ N := (Nat.le_trans (by go_size) hN); have qN0 : w.heap.size < N := (Nat.lt_of_lt_of_le (by go_size) hN); have nN0 : ¬ w.heap.size = N := (Nat.ne_of_lt qN0); have mN0 : ¬ N = w.heap.size := (Nat.ne_of_gt qN0); have qN1 : w.heap.size + 1 < N := (Nat.lt_of_lt_of_le (by go_size) hN); have nN1 : ¬ w.heap.size + 1 = N := (Nat.ne_of_lt qN1); have mN1 : ¬ N = w.heap.size + 1 := (Nat.ne_of_gt qN1); clear hN
  go_wp2_with (first | (go_at_call 19; refine (Safe_any _ t ht _ _ _ _).mono ?_; rintro _ _ ⟨rfl, g3, rfl⟩; have sg30 : w.heap.size < g3.val.heap.size := (Nat.lt_of_lt_of_le (by go_size) g3.size); have sg31 : w.heap.size + 1 < g3.val.heap.size := (Nat.lt_of_lt_of_le (by go_size) g3.size); have sgN : N < g3.val.heap.size := (Nat.lt_of_lt_of_le (by go_size) g3.size)) | (go_at_call 13; refine (Short_any t ht _).mono ?_; rintro _ _ ⟨rfl, g4, rfl⟩; have sg40 : w.heap.size < g4.val.heap.size := (Nat.lt_of_lt_of_le (by go_size) g4.size); have sg41 : w.heap.size + 1 < g4.val.heap.size := (Nat.lt_of_lt_of_le (by go_size) g4.size); have sgN4 : N < g4.val.heap.size := (Nat.lt_of_lt_of_le (by go_size) g4.size)) | (go_at_call 21; refine (Pick_same _ _ (by omega) (by omega) _).mono ?_; rintro _ _ ⟨rfl, rfl⟩))
  (refine wp_region_grow_tail 11 (by kernel_rfl) (by kernel_rfl) ?_; simp only [List.take_succ_cons, List.take_zero, List.drop_succ_cons, List.drop_zero]; (repeat (go_big_quiet_step ((fail)))); refine wpQuiet_nil ?_; rintro _ ⟨g5, rfl⟩)
  have sg50 : w.heap.size < g5.val.heap.size := (Nat.lt_of_lt_of_le (by go_size) g5.size); have sg51 : w.heap.size + 1 < g5.val.heap.size := (Nat.lt_of_lt_of_le (by go_size) g5.size)
  have sgN5 : N < g5.val.heap.size := (Nat.lt_of_lt_of_le (by go_size) g5.size)
  go_wp2
  (refine wp_region_grow_tail 17 (by kernel_rfl) (by kernel_rfl) ?_; simp only [List.take_succ_cons, List.take_zero, List.drop_succ_cons, List.drop_zero]; (repeat (go_big_quiet_step (((go_at_call 21; exact Calls.ext_of (Pick_any _ _ (by omega) (by omega) _)))))); refine wpQuiet_nil ?_; rintro _ ⟨g6, rfl⟩)
  have sg60 : w.heap.size < g6.val.heap.size := (Nat.lt_of_lt_of_le (by go_size) g6.size); have sg61 : w.heap.size + 1 < g6.val.heap.size := (Nat.lt_of_lt_of_le (by go_size) g6.size)
  have sgN6 : N < g6.val.heap.size := (Nat.lt_of_lt_of_le (by go_size) g6.size)
  go_wp2_with (go_at_call 9; refine (Left_any _ _ _ _ _).mono ?_; rintro _ _ ⟨rfl, g7, rfl⟩; have sg70 : w.heap.size < g7.val.heap.size := (Nat.lt_of_lt_of_le (by go_size) g7.size); have sg71 : w.heap.size + 1 < g7.val.heap.size := (Nat.lt_of_lt_of_le (by go_size) g7.size); have sgN7 : N < g7.val.heap.size := (Nat.lt_of_lt_of_le (by go_size) g7.size))
  (refine wp_region_grow (by kernel_rfl) (by kernel_rfl) ?_; (repeat (go_big_quiet_step ((first | (go_at_call 13; exact Calls.ext_of (Short_any t ht _)) | (go_at_call 11; exact Calls.ext_of (Margin_any t ht _)) | (go_at_call 19; exact Calls.ext_of (Safe_any _ t ht _ _ _ _)) | (go_at_call 8; exact Calls.ext_of (works_any _)))))); refine wpQuiet_nil ?_; rintro _ ⟨g8, rfl⟩)
  go_wp2
  go_ret
  (refine Ret.mk ?_; (repeat' (first | (with_reducible exact Below.refl _ _) | (with_reducible assumption) | (with_reducible refine Ext.up _ ?_) | (with_reducible refine Below.alloc ?_ ?_ _) | (with_reducible refine Below.drew ?_) | (with_reducible refine Below.setCell ?_ ?_ _) | (with_reducible refine Below.setRow_ ?_ ?_ _) | go_size)))
end Go.Proofs.Ytcbdoiiahbmneaa

/- What is proved: the walk of TimeoutSafe of layer 19, the role First. -/
import Derived.Test.YtcbdoiiahbmneaaS1
namespace Go.Proofs.Ytcbdoiiahbmneaa
open Go.RowKit

set_option maxRecDepth 100000 in
theorem Safe_first (t : T) (ht : t.Ok) (h1 : 0 ≤ t.lo) (h2 : t.hi ≤ 1024) (hf : 1 ≤ t.fast) (p q a b c x y P G : Int) (hP : pick p 3 = P) (hG : (pick p 3 + 1 + pick q 2) % 3 = G) (w : World) :
    Calls Try.prog 4 #[(.agg t.cells), .bool true, .int .i64 p, .int .i64 q, (.agg #[.int .i64 a, .int .i64 b, .int .i64 c]), .int .i64 x, .int .i64 y] w (Ret (.bool true) w) := by
  have ha := pick_bd a 1073741824 (by omega)
  have hb := pick_bd b 1073741824 (by omega)
  have hc := pick_bd c 1073741824 (by omega)
  have hL := legs_first ht ha hb hc P G
  have hs0 := safe_one ht (a := pick a 1073741824) (b := pick b 1073741824) (c := pick c 1073741824) P (clk (pick a 1073741824) (pick b 1073741824) (pick c 1073741824) P + t.long) G
  have hs1 := safe_turned ht hf (a := pick a 1073741824) (b := pick b 1073741824) (c := pick c 1073741824) P G
  simp only [D.timed] at hs0 hs1
  go_enter Try.func4, Try.ntmps4
  go_wp2_with (go_at_call 7; refine (Right_yes t h1 h2 _).mono ?_; rintro _ _ ⟨rfl, g, rfl⟩; have sg0 : w.heap.size < g.val.heap.size := (Nat.lt_of_lt_of_le (by go_size) g.size); have sg1 : w.heap.size + 1 < g.val.heap.size := (Nat.lt_of_lt_of_le (by go_size) g.size))
  refine wp_loop_rounds 4 ?_
  rw [rounds_succ]
  go_wp2_with (go_at_call 21; refine (Pick_same _ _ (by omega) (by omega) _).mono ?_; rintro _ _ ⟨rfl, rfl⟩)
  rw [rounds_succ]
  go_wp2_with (go_at_call 21; refine (Pick_same _ _ (by omega) (by omega) _).mono ?_; rintro _ _ ⟨rfl, rfl⟩)
  rw [rounds_succ]
  go_wp2_with (go_at_call 21; refine (Pick_same _ _ (by omega) (by omega) _).mono ?_; rintro _ _ ⟨rfl, rfl⟩)
  rw [rounds_succ]
  go_wp2_with (go_at_call 21; refine (Pick_same _ _ (by omega) (by omega) _).mono ?_; rintro _ _ ⟨rfl, rfl⟩)
  (refine wp_region_lay_tail 8 7 (fun N => .pointer (some ⟨N, 0, none⟩)) (.cells D.zero.cells 29) (by kernel_rfl) (by kernel_rfl) ?_; simp only [List.take_succ_cons, List.take_zero, List.drop_succ_cons, List.drop_zero]; (repeat (first | (refine grow_lay rfl (fun _ => rfl) (fun _ _ => (by simp [go_sem])) ?_; simp only [Act.put, List.setIfInBounds_toArray, List.set_cons_succ, List.set_cons_zero]) | (refine grow_step rfl (fun K hK => ?_); go_simp; (first | (refine hK _ ?_; clear hK K) | (apply Exists.intro; refine ⟨fun _ => ?_, hK _ ?_⟩; (first | (go_at_call 22; exact deal_at true p q P G 1 rfl hP hG _) | (go_at_call 17; exact Legs_any (D.at_ 1 P G) t ht _ _ _ _)); clear hK K))))); refine (fun N w' hN lN eN ⟨g2, he⟩ => ?_); subst he; have rN := rowOf_of eN; have sN := soft_of eN; clear eN)
  have sg20 : w.heap.size < g2.val.heap.size := (Nat.lt_of_lt_of_le (by go_size) g2.size); have sg21 : w.heap.size + 1 < g2.val.heap.size := (Nat.lt_of_lt_of_le (by go_size) g2.size); have bN : w.heap.size ≤ N := (Nat.le_trans (by go_size) hN); have qN0 : w.heap.size < N := (Nat.lt_of_lt_of_le (by go_size) hN); have nN0 : ¬ w.heap.size = N := (Nat.ne_of_lt qN0); have mN0 : ¬ N = w.heap.size := (Nat.ne_of_gt qN0); have qN1 : w.heap.size + 1 < N := (Nat.lt_of_lt_of_le (by go_size) hN); have nN1 : ¬ w.heap.size + 1 = N := (Nat.ne_of_lt qN1); have mN1 : ¬ N = w.heap.size + 1 := (Nat.ne_of_gt qN1); clear hN
  go_wp2_with (first | (go_at_call 19; refine (Safe_any _ t ht _ _ _ _).mono ?_; rintro _ _ ⟨rfl, g3, rfl⟩; have sg30 : w.heap.size < g3.val.heap.size := (Nat.lt_of_lt_of_le (by go_size) g3.size); have sg31 : w.heap.size + 1 < g3.val.heap.size := (Nat.lt_of_lt_of_le (by go_size) g3.size); have sgN : N < g3.val.heap.size := (Nat.lt_of_lt_of_le (by go_size) g3.size)) | (go_at_call 8; refine (works_any _).mono ?_; rintro _ _ ⟨rfl, g4, rfl⟩))

  go_ret
  (refine Ret.mk ?_; (repeat' (first | (with_reducible exact Below.refl _ _) | (with_reducible assumption) | (with_reducible refine Ext.up _ ?_) | (with_reducible refine Below.alloc ?_ ?_ _) | (with_reducible refine Below.drew ?_) | (with_reducible refine Below.setCell ?_ ?_ _) | (with_reducible refine Below.setRow_ ?_ ?_ _) | go_size)))
end Go.Proofs.Ytcbdoiiahbmneaa

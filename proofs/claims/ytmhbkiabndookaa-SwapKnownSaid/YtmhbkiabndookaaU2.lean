/- What is proved: what Legs and Safe of layer 19 (timeout), and the document's answers, return. Conditions: terms from 0 to 1024. -/
import Derived.Test.YtmhbkiabndookaaU1
namespace Go.Proofs.Ytmhbkiabndookaa
open Go.RowKit

theorem Legs_first (d : D) (t : T) (ht : t.Ok) (a b c : Int) (hr : d.role = 1) (w : World) :
    Calls Try.prog 32 #[(.agg t.cells), (.agg d.cells), (.agg #[.int .i64 a, .int .i64 b, .int .i64 c])] w (Ret (.agg ({ d with pz := wrap64 (clk a b c d.px + t.long), gz := wrap64 (clk a b c d.gx + 3 * t.mar) } : D).cells) w) := by
  have hm := ht.mar
  have hl := ht.long
  go_enter Try.func32, Try.ntmps32
  go_wp2
  (refine wp_region_grow_tail 12 (by kernel_rfl) (by kernel_rfl) ?_; simp only [List.take_succ_cons, List.take_zero, List.drop_succ_cons, List.drop_zero]; (repeat (go_big_quiet_step ((first | (go_at_call 49; exact Calls.ext_of (at_any _ _ _ _ _)) | (go_at_call 17; exact Calls.ext_of (Long_any t ht _)))))); refine wpQuiet_nil ?_; rintro _ ⟨g, rfl⟩)
  have sg0 : w.heap.size < g.val.heap.size := (Nat.lt_of_lt_of_le (by go_size) g.size); have sg1 : w.heap.size + 1 < g.val.heap.size := (Nat.lt_of_lt_of_le (by go_size) g.size); have sg2 : w.heap.size + 1 + 1 < g.val.heap.size := (Nat.lt_of_lt_of_le (by go_size) g.size); have sg3 : w.heap.size + 1 + 1 + 1 < g.val.heap.size := (Nat.lt_of_lt_of_le (by go_size) g.size)
  go_wp2
  (refine wp_region_grow_tail 12 (by kernel_rfl) (by kernel_rfl) ?_; simp only [List.take_succ_cons, List.take_zero, List.drop_succ_cons, List.drop_zero]; (repeat (go_big_quiet_step ((first | (go_at_call 49; exact Calls.ext_of (at_any _ _ _ _ _)) | (go_at_call 31; exact Calls.ext_of (Short_any t ht _)))))); refine wpQuiet_nil ?_; rintro _ ⟨g2, rfl⟩)
  have sg20 : w.heap.size < g2.val.heap.size := (Nat.lt_of_lt_of_le (by go_size) g2.size); have sg21 : w.heap.size + 1 < g2.val.heap.size := (Nat.lt_of_lt_of_le (by go_size) g2.size); have sg22 : w.heap.size + 1 + 1 < g2.val.heap.size := (Nat.lt_of_lt_of_le (by go_size) g2.size); have sg23 : w.heap.size + 1 + 1 + 1 < g2.val.heap.size := (Nat.lt_of_lt_of_le (by go_size) g2.size)
  go_wp2
  (refine bodyPost_ret (results29 _ _ Try.results32 _ rfl ?_ ?_) rfl (Ret.mk ?_); (focus (first | rfl | (simp [go_sem, *]; done) | (simp [go_sem, *]; rfl))); (focus (first | rfl | (simp [go_sem]; done))); (repeat' (first | (with_reducible exact Below.refl _ _) | (with_reducible assumption) | (with_reducible refine Ext.up _ ?_) | (with_reducible refine Below.alloc ?_ ?_ _) | (with_reducible refine Below.drew ?_) | (with_reducible refine Below.setCell ?_ ?_ _) | (with_reducible refine Below.setRow_ ?_ ?_ _) | go_size)))
theorem Legs_second (d : D) (t : T) (ht : t.Ok) (a b c : Int) (hr : (d.role == 1) = false) (w : World) :
    Calls Try.prog 32 #[(.agg t.cells), (.agg d.cells), (.agg #[.int .i64 a, .int .i64 b, .int .i64 c])] w (Ret (.agg ({ d with pz := wrap64 (clk a b c d.px + 3 * t.mar), gz := wrap64 (clk a b c d.gx + t.long) } : D).cells) w) := by
  have hm := ht.mar
  have hl := ht.long
  go_enter Try.func32, Try.ntmps32
  go_wp2
  (refine wp_region_grow_tail 12 (by kernel_rfl) (by kernel_rfl) ?_; simp only [List.take_succ_cons, List.take_zero, List.drop_succ_cons, List.drop_zero]; (repeat (go_big_quiet_step ((first | (go_at_call 49; exact Calls.ext_of (at_any _ _ _ _ _)) | (go_at_call 17; exact Calls.ext_of (Long_any t ht _)))))); refine wpQuiet_nil ?_; rintro _ ⟨g, rfl⟩)
  have sg0 : w.heap.size < g.val.heap.size := (Nat.lt_of_lt_of_le (by go_size) g.size); have sg1 : w.heap.size + 1 < g.val.heap.size := (Nat.lt_of_lt_of_le (by go_size) g.size); have sg2 : w.heap.size + 1 + 1 < g.val.heap.size := (Nat.lt_of_lt_of_le (by go_size) g.size); have sg3 : w.heap.size + 1 + 1 + 1 < g.val.heap.size := (Nat.lt_of_lt_of_le (by go_size) g.size)
  go_wp2
  (refine wp_region_grow_tail 12 (by kernel_rfl) (by kernel_rfl) ?_; simp only [List.take_succ_cons, List.take_zero, List.drop_succ_cons, List.drop_zero]; (repeat (go_big_quiet_step ((first | (go_at_call 49; exact Calls.ext_of (at_any _ _ _ _ _)) | (go_at_call 31; exact Calls.ext_of (Short_any t ht _)))))); refine wpQuiet_nil ?_; rintro _ ⟨g2, rfl⟩)
  have sg20 : w.heap.size < g2.val.heap.size := (Nat.lt_of_lt_of_le (by go_size) g2.size); have sg21 : w.heap.size + 1 < g2.val.heap.size := (Nat.lt_of_lt_of_le (by go_size) g2.size); have sg22 : w.heap.size + 1 + 1 < g2.val.heap.size := (Nat.lt_of_lt_of_le (by go_size) g2.size); have sg23 : w.heap.size + 1 + 1 + 1 < g2.val.heap.size := (Nat.lt_of_lt_of_le (by go_size) g2.size)
  go_wp2
  (refine bodyPost_ret (results29 _ _ Try.results32 _ rfl ?_ ?_) rfl (Ret.mk ?_); (focus (first | rfl | (simp [go_sem, *]; done) | (simp [go_sem, *]; rfl))); (focus (first | rfl | (simp [go_sem]; done))); (repeat' (first | (with_reducible exact Below.refl _ _) | (with_reducible assumption) | (with_reducible refine Ext.up _ ?_) | (with_reducible refine Below.alloc ?_ ?_ _) | (with_reducible refine Below.drew ?_) | (with_reducible refine Below.setCell ?_ ?_ _) | (with_reducible refine Below.setRow_ ?_ ?_ _) | go_size)))

theorem Legs_any (d : D) (t : T) (ht : t.Ok) (a b c : Int) (w : World) :
    Calls Try.prog 32 #[(.agg t.cells), (.agg d.cells), (.agg #[.int .i64 a, .int .i64 b, .int .i64 c])] w (Ret (.agg (d.legs t a b c).cells) w) := by
  by_cases hr : d.role = 1
  · rw [show d.legs t a b c = _ from if_pos hr]; exact Legs_first d t ht a b c hr w
  · rw [show d.legs t a b c = _ from if_neg hr]; exact Legs_second d t ht a b c (by simpa using hr) w

end Go.Proofs.Ytmhbkiabndookaa

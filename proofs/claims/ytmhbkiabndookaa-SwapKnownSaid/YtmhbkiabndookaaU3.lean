/- What is proved: what Safe, Right and the small functions of layer 19's statements return. Conditions: terms from 0 to 1024 where a theorem says so. -/
import Derived.Test.YtmhbkiabndookaaU2
namespace Go.Proofs.Ytmhbkiabndookaa
open Go.RowKit

theorem safe_first_yes (d : D) (t : T) (a b c : Int) (hr : d.role = 1) (h : d.leftG a b c < t.mar) : d.safe t a b c = 23 := by unfold D.safe; rw [if_pos hr, if_pos h]
theorem safe_first_no (d : D) (t : T) (a b c : Int) (hr : d.role = 1) (h : ¬ d.leftG a b c < t.mar) : d.safe t a b c = 0 := by unfold D.safe; rw [if_pos hr, if_neg h]
theorem safe_second_yes (d : D) (t : T) (a b c : Int) (hr : ¬ d.role = 1) (h : d.leftG a b c < wrap64 (t.mar + wrap64 (d.leftP a b c * t.fast))) : d.safe t a b c = 23 := by unfold D.safe; rw [if_neg hr, if_pos h]
theorem safe_second_no (d : D) (t : T) (a b c : Int) (hr : ¬ d.role = 1) (h : ¬ d.leftG a b c < wrap64 (t.mar + wrap64 (d.leftP a b c * t.fast))) : d.safe t a b c = 0 := by unfold D.safe; rw [if_neg hr, if_neg h]

theorem Safe_any (d : D) (t : T) (ht : t.Ok) (a b c : Int) (w : World) :
    Calls Try.prog 13 #[(.agg t.cells), (.agg d.cells), (.agg #[.int .i64 a, .int .i64 b, .int .i64 c])] w (Ret (.int .i64 (d.safe t a b c)) w) := by
  have hm := ht.mar
  by_cases hr : d.role = 1
  · by_cases h : d.leftG a b c < t.mar
    · rw [safe_first_yes d t a b c hr h]
      go_enter Try.func13, Try.ntmps13
      go_wp2_with (go_at_call 14; refine (Left_any d _ _ _ _).mono ?_; rintro _ _ ⟨rfl, g, rfl⟩)
      have sg0 : w.heap.size < g.val.heap.size := (Nat.lt_of_lt_of_le (by go_size) g.size); have sg1 : w.heap.size + 1 < g.val.heap.size := (Nat.lt_of_lt_of_le (by go_size) g.size); have sg2 : w.heap.size + 1 + 1 < g.val.heap.size := (Nat.lt_of_lt_of_le (by go_size) g.size)
      (refine wp_region_grow (by kernel_rfl) (by kernel_rfl) ?_; (repeat (go_big_quiet_step (((go_at_call 29; exact Calls.ext_of (Margin_any t ht _)))))); refine wpQuiet_nil ?_; rintro _ ⟨g2, rfl⟩)
      go_wp2
      go_ret
      (refine Ret.mk ?_; (repeat' (first | (with_reducible exact Below.refl _ _) | (with_reducible assumption) | (with_reducible refine Ext.up _ ?_) | (with_reducible refine Below.alloc ?_ ?_ _) | (with_reducible refine Below.drew ?_) | (with_reducible refine Below.setCell ?_ ?_ _) | (with_reducible refine Below.setRow_ ?_ ?_ _) | go_size)))
    · rw [safe_first_no d t a b c hr h]
      go_enter Try.func13, Try.ntmps13
      go_wp2_with (go_at_call 14; refine (Left_any d _ _ _ _).mono ?_; rintro _ _ ⟨rfl, g, rfl⟩)
      have sg0 : w.heap.size < g.val.heap.size := (Nat.lt_of_lt_of_le (by go_size) g.size); have sg1 : w.heap.size + 1 < g.val.heap.size := (Nat.lt_of_lt_of_le (by go_size) g.size); have sg2 : w.heap.size + 1 + 1 < g.val.heap.size := (Nat.lt_of_lt_of_le (by go_size) g.size)
      (refine wp_region_grow (by kernel_rfl) (by kernel_rfl) ?_; (repeat (go_big_quiet_step (((go_at_call 29; exact Calls.ext_of (Margin_any t ht _)))))); refine wpQuiet_nil ?_; rintro _ ⟨g2, rfl⟩)
      go_wp2
      go_ret
      (refine Ret.mk ?_; (repeat' (first | (with_reducible exact Below.refl _ _) | (with_reducible assumption) | (with_reducible refine Ext.up _ ?_) | (with_reducible refine Below.alloc ?_ ?_ _) | (with_reducible refine Below.drew ?_) | (with_reducible refine Below.setCell ?_ ?_ _) | (with_reducible refine Below.setRow_ ?_ ?_ _) | go_size)))
  · have hr' : (d.role == 1) = false := by simpa using hr
    by_cases h : d.leftG a b c < wrap64 (t.mar + wrap64 (d.leftP a b c * t.fast))
    · rw [safe_second_yes d t a b c hr h]
      go_enter Try.func13, Try.ntmps13
      go_wp2_with (go_at_call 14; refine (Left_any d _ _ _ _).mono ?_; rintro _ _ ⟨rfl, g, rfl⟩)
      have sg0 : w.heap.size < g.val.heap.size := (Nat.lt_of_lt_of_le (by go_size) g.size); have sg1 : w.heap.size + 1 < g.val.heap.size := (Nat.lt_of_lt_of_le (by go_size) g.size); have sg2 : w.heap.size + 1 + 1 < g.val.heap.size := (Nat.lt_of_lt_of_le (by go_size) g.size)
      (refine wp_region_grow (by kernel_rfl) (by kernel_rfl) ?_; (repeat (go_big_quiet_step (((go_at_call 29; exact Calls.ext_of (Margin_any t ht _)))))); refine wpQuiet_nil ?_; rintro _ ⟨g2, rfl⟩)
      go_wp2
      go_ret
      (refine Ret.mk ?_; (repeat' (first | (with_reducible exact Below.refl _ _) | (with_reducible assumption) | (with_reducible refine Ext.up _ ?_) | (with_reducible refine Below.alloc ?_ ?_ _) | (with_reducible refine Below.drew ?_) | (with_reducible refine Below.setCell ?_ ?_ _) | (with_reducible refine Below.setRow_ ?_ ?_ _) | go_size)))
    · rw [safe_second_no d t a b c hr h]
      go_enter Try.func13, Try.ntmps13
      go_wp2_with (go_at_call 14; refine (Left_any d _ _ _ _).mono ?_; rintro _ _ ⟨rfl, g, rfl⟩)
      have sg0 : w.heap.size < g.val.heap.size := (Nat.lt_of_lt_of_le (by go_size) g.size); have sg1 : w.heap.size + 1 < g.val.heap.size := (Nat.lt_of_lt_of_le (by go_size) g.size); have sg2 : w.heap.size + 1 + 1 < g.val.heap.size := (Nat.lt_of_lt_of_le (by go_size) g.size)
      (refine wp_region_grow (by kernel_rfl) (by kernel_rfl) ?_; (repeat (go_big_quiet_step (((go_at_call 29; exact Calls.ext_of (Margin_any t ht _)))))); refine wpQuiet_nil ?_; rintro _ ⟨g2, rfl⟩)
      go_wp2
      go_ret
      (refine Ret.mk ?_; (repeat' (first | (with_reducible exact Below.refl _ _) | (with_reducible assumption) | (with_reducible refine Ext.up _ ?_) | (with_reducible refine Below.alloc ?_ ?_ _) | (with_reducible refine Below.drew ?_) | (with_reducible refine Below.setCell ?_ ?_ _) | (with_reducible refine Below.setRow_ ?_ ?_ _) | go_size)))

theorem refSafe_any (d : D) (t : T) (ht : t.Ok) (a b c : Int) (w : World) :
    Calls Try.prog 25 #[(.agg t.cells), (.agg d.cells), (.agg #[.int .i64 a, .int .i64 b, .int .i64 c])] w (Ret (.int .i64 (d.safe t a b c)) w) := by
  have hm := ht.mar
  by_cases hr : d.role = 1
  · by_cases h : d.leftG a b c < t.mar
    · rw [safe_first_yes d t a b c hr h]
      go_enter Try.func25, Try.ntmps25
      go_wp2_with (first | (go_at_call 47; refine (refLeft_any d _ _ _ _).mono ?_; rintro _ _ ⟨rfl, g, rfl⟩; have sg0 : w.heap.size < g.val.heap.size := (Nat.lt_of_lt_of_le (by go_size) g.size); have sg1 : w.heap.size + 1 < g.val.heap.size := (Nat.lt_of_lt_of_le (by go_size) g.size); have sg2 : w.heap.size + 1 + 1 < g.val.heap.size := (Nat.lt_of_lt_of_le (by go_size) g.size)) | (go_at_call 48; refine (refMargin_any t ht _).mono ?_; rintro _ _ ⟨rfl, g2, rfl⟩))
      go_ret
      (refine Ret.mk ?_; (repeat' (first | (with_reducible exact Below.refl _ _) | (with_reducible assumption) | (with_reducible refine Ext.up _ ?_) | (with_reducible refine Below.alloc ?_ ?_ _) | (with_reducible refine Below.drew ?_) | (with_reducible refine Below.setCell ?_ ?_ _) | (with_reducible refine Below.setRow_ ?_ ?_ _) | go_size)))
    · rw [safe_first_no d t a b c hr h]
      go_enter Try.func25, Try.ntmps25
      go_wp2_with (first | (go_at_call 47; refine (refLeft_any d _ _ _ _).mono ?_; rintro _ _ ⟨rfl, g, rfl⟩; have sg0 : w.heap.size < g.val.heap.size := (Nat.lt_of_lt_of_le (by go_size) g.size); have sg1 : w.heap.size + 1 < g.val.heap.size := (Nat.lt_of_lt_of_le (by go_size) g.size); have sg2 : w.heap.size + 1 + 1 < g.val.heap.size := (Nat.lt_of_lt_of_le (by go_size) g.size)) | (go_at_call 48; refine (refMargin_any t ht _).mono ?_; rintro _ _ ⟨rfl, g2, rfl⟩))
      go_ret
      (refine Ret.mk ?_; (repeat' (first | (with_reducible exact Below.refl _ _) | (with_reducible assumption) | (with_reducible refine Ext.up _ ?_) | (with_reducible refine Below.alloc ?_ ?_ _) | (with_reducible refine Below.drew ?_) | (with_reducible refine Below.setCell ?_ ?_ _) | (with_reducible refine Below.setRow_ ?_ ?_ _) | go_size)))
  · have hr' : (d.role != 1) = true := by simpa using hr
    by_cases h : d.leftG a b c < wrap64 (t.mar + wrap64 (d.leftP a b c * t.fast))
    · rw [safe_second_yes d t a b c hr h]
      go_enter Try.func25, Try.ntmps25
      go_wp2_with (first | (go_at_call 47; refine (refLeft_any d _ _ _ _).mono ?_; rintro _ _ ⟨rfl, g, rfl⟩; have sg0 : w.heap.size < g.val.heap.size := (Nat.lt_of_lt_of_le (by go_size) g.size); have sg1 : w.heap.size + 1 < g.val.heap.size := (Nat.lt_of_lt_of_le (by go_size) g.size); have sg2 : w.heap.size + 1 + 1 < g.val.heap.size := (Nat.lt_of_lt_of_le (by go_size) g.size)) | (go_at_call 48; refine (refMargin_any t ht _).mono ?_; rintro _ _ ⟨rfl, g2, rfl⟩))
      go_ret
      (refine Ret.mk ?_; (repeat' (first | (with_reducible exact Below.refl _ _) | (with_reducible assumption) | (with_reducible refine Ext.up _ ?_) | (with_reducible refine Below.alloc ?_ ?_ _) | (with_reducible refine Below.drew ?_) | (with_reducible refine Below.setCell ?_ ?_ _) | (with_reducible refine Below.setRow_ ?_ ?_ _) | go_size)))
    · rw [safe_second_no d t a b c hr h]
      go_enter Try.func25, Try.ntmps25
      go_wp2_with (first | (go_at_call 47; refine (refLeft_any d _ _ _ _).mono ?_; rintro _ _ ⟨rfl, g, rfl⟩; have sg0 : w.heap.size < g.val.heap.size := (Nat.lt_of_lt_of_le (by go_size) g.size); have sg1 : w.heap.size + 1 < g.val.heap.size := (Nat.lt_of_lt_of_le (by go_size) g.size); have sg2 : w.heap.size + 1 + 1 < g.val.heap.size := (Nat.lt_of_lt_of_le (by go_size) g.size)) | (go_at_call 48; refine (refMargin_any t ht _).mono ?_; rintro _ _ ⟨rfl, g2, rfl⟩))
      go_ret
      (refine Ret.mk ?_; (repeat' (first | (with_reducible exact Below.refl _ _) | (with_reducible assumption) | (with_reducible refine Ext.up _ ?_) | (with_reducible refine Below.alloc ?_ ?_ _) | (with_reducible refine Below.drew ?_) | (with_reducible refine Below.setCell ?_ ?_ _) | (with_reducible refine Below.setRow_ ?_ ?_ _) | go_size)))
end Go.Proofs.Ytmhbkiabndookaa

/- What is proved: TimeoutSays of layer 19 returns true, whatever the terms, the deal and the heights (the walk). -/
import Derived.Test.YtcbdoiiahbmneaaT5
import Derived.Test.YtcbdoiiahbmneaaEq
namespace Go.Proofs.Ytcbdoiiahbmneaa
open Go.RowKit

theorem eq_hash (h : Nat → Int) (w : World) : (Op.equalIn 9999 27 (.agg #[.int .u8 (h 0), .int .u8 (h 1), .int .u8 (h 2), .int .u8 (h 3), .int .u8 (h 4), .int .u8 (h 5), .int .u8 (h 6), .int .u8 (h 7), .int .u8 (h 8), .int .u8 (h 9), .int .u8 (h 10), .int .u8 (h 11), .int .u8 (h 12), .int .u8 (h 13), .int .u8 (h 14), .int .u8 (h 15), .int .u8 (h 16), .int .u8 (h 17), .int .u8 (h 18), .int .u8 (h 19), .int .u8 (h 20), .int .u8 (h 21), .int .u8 (h 22), .int .u8 (h 23), .int .u8 (h 24), .int .u8 (h 25), .int .u8 (h 26), .int .u8 (h 27), .int .u8 (h 28), .int .u8 (h 29), .int .u8 (h 30), .int .u8 (h 31)]) (.agg #[.int .u8 (h 0), .int .u8 (h 1), .int .u8 (h 2), .int .u8 (h 3), .int .u8 (h 4), .int .u8 (h 5), .int .u8 (h 6), .int .u8 (h 7), .int .u8 (h 8), .int .u8 (h 9), .int .u8 (h 10), .int .u8 (h 11), .int .u8 (h 12), .int .u8 (h 13), .int .u8 (h 14), .int .u8 (h 15), .int .u8 (h 16), .int .u8 (h 17), .int .u8 (h 18), .int .u8 (h 19), .int .u8 (h 20), .int .u8 (h 21), .int .u8 (h 22), .int .u8 (h 23), .int .u8 (h 24), .int .u8 (h 25), .int .u8 (h 26), .int .u8 (h 27), .int .u8 (h 28), .int .u8 (h 29), .int .u8 (h 30), .int .u8 (h 31)])).run Try.prog w = .ok true w := by
  obtain ⟨i, hi⟩ := info_of_underlying Try.underlying5
  refine eq_array_refl Try.underlying27 hi Try.underlying5 (by kernel_rfl) 9997 _ (fun j hj => ?_) w
  match j, hj with | 0, _ => exact ⟨_, rfl⟩ | 1, _ => exact ⟨_, rfl⟩ | 2, _ => exact ⟨_, rfl⟩ | 3, _ => exact ⟨_, rfl⟩ | 4, _ => exact ⟨_, rfl⟩ | 5, _ => exact ⟨_, rfl⟩ | 6, _ => exact ⟨_, rfl⟩ | 7, _ => exact ⟨_, rfl⟩ | 8, _ => exact ⟨_, rfl⟩ | 9, _ => exact ⟨_, rfl⟩ | 10, _ => exact ⟨_, rfl⟩ | 11, _ => exact ⟨_, rfl⟩ | 12, _ => exact ⟨_, rfl⟩ | 13, _ => exact ⟨_, rfl⟩ | 14, _ => exact ⟨_, rfl⟩ | 15, _ => exact ⟨_, rfl⟩ | 16, _ => exact ⟨_, rfl⟩ | 17, _ => exact ⟨_, rfl⟩ | 18, _ => exact ⟨_, rfl⟩ | 19, _ => exact ⟨_, rfl⟩ | 20, _ => exact ⟨_, rfl⟩ | 21, _ => exact ⟨_, rfl⟩ | 22, _ => exact ⟨_, rfl⟩ | 23, _ => exact ⟨_, rfl⟩ | 24, _ => exact ⟨_, rfl⟩ | 25, _ => exact ⟨_, rfl⟩ | 26, _ => exact ⟨_, rfl⟩ | 27, _ => exact ⟨_, rfl⟩ | 28, _ => exact ⟨_, rfl⟩ | 29, _ => exact ⟨_, rfl⟩ | 30, _ => exact ⟨_, rfl⟩ | 31, _ => exact ⟨_, rfl⟩ | n + 32, hj => omega
theorem eql_deal (d : D) (w : World) : (binOp .eql 29 (.agg d.cells) (.agg d.cells)).run Try.prog w = .ok (.bool true) w := by
  have e := eq_hash d.h
  simp [D.cells, go_sem, e]
def IsD (v : Value) : Prop := ∃ d : D, v = .agg d.cells
theorem isD_mk (d : D) : IsD (.agg d.cells) = True := eq_true ⟨d, rfl⟩
theorem eqg29 (x y : Operand) (xs ys : Array Value) (w : World) : (eqGuard .eql 29 x y (.agg xs) (.agg ys)).run Try.prog w = .ok () w := by kernel_rfl
theorem eql29 (w : World) (ρ : Operand → Value) (x y : Operand) (dst : Option Tmp) (r ty : TypeId) (pos : String) (af : Array Edge) (gd : Option (Nat × Bool)) (h1 : IsD (ρ x)) (h2 : ρ y = ρ x) :
    (execOp ρ ⟨dst, .binOp .eql 29 x y r, ty, pos, af, gd⟩).run Try.prog w = .ok (.value (.bool true)) w := by
  obtain ⟨d, hd⟩ := h1
  unfold execOp
  simp only [Sem.run_bind, h2, hd, eqg29, Result.andThen_ok, eql_deal, Sem.run_pure]
attribute [go_sem ↓] eql29
attribute [go_sem] isD_mk

set_option maxRecDepth 100000 in
theorem TimeoutSays_walk (t : T) (d : D) (a b c : Int) (w : World) : Calls Try.prog 3 #[(.agg t.cells), (.agg d.cells), (.agg #[.int .i64 a, .int .i64 b, .int .i64 c])] w (Ret (.bool true) w) := by
  by_cases h1 : t.lo < 0
  · go_enter Try.func3, Try.ntmps3
    go_wp2_with (first | (go_at_call 7; refine (Right_no1 t h1 _).mono ?_; rintro _ _ ⟨rfl, g, rfl⟩; have sg0 : w.heap.size < g.val.heap.size := (Nat.lt_of_lt_of_le (by go_size) g.size); have sg1 : w.heap.size + 1 < g.val.heap.size := (Nat.lt_of_lt_of_le (by go_size) g.size); have sg2 : w.heap.size + 1 + 1 < g.val.heap.size := (Nat.lt_of_lt_of_le (by go_size) g.size)) | (go_at_call 8; refine (works_any _).mono ?_; rintro _ _ ⟨rfl, g2, rfl⟩))
    go_ret
    (refine Ret.mk ?_; (repeat' (first | (with_reducible exact Below.refl _ _) | (with_reducible assumption) | (with_reducible refine Ext.up _ ?_) | (with_reducible refine Below.alloc ?_ ?_ _) | (with_reducible refine Below.drew ?_) | (with_reducible refine Below.setCell ?_ ?_ _) | (with_reducible refine Below.setRow_ ?_ ?_ _) | go_size)))
  · by_cases h2 : 1024 < t.hi
    · go_enter Try.func3, Try.ntmps3
      go_wp2_with (first | (go_at_call 7; refine (Right_no2 t (by omega) h2 _).mono ?_; rintro _ _ ⟨rfl, g, rfl⟩; have sg0 : w.heap.size < g.val.heap.size := (Nat.lt_of_lt_of_le (by go_size) g.size); have sg1 : w.heap.size + 1 < g.val.heap.size := (Nat.lt_of_lt_of_le (by go_size) g.size); have sg2 : w.heap.size + 1 + 1 < g.val.heap.size := (Nat.lt_of_lt_of_le (by go_size) g.size)) | (go_at_call 8; refine (works_any _).mono ?_; rintro _ _ ⟨rfl, g2, rfl⟩))
      go_ret
      (refine Ret.mk ?_; (repeat' (first | (with_reducible exact Below.refl _ _) | (with_reducible assumption) | (with_reducible refine Ext.up _ ?_) | (with_reducible refine Below.alloc ?_ ?_ _) | (with_reducible refine Below.drew ?_) | (with_reducible refine Below.setCell ?_ ?_ _) | (with_reducible refine Below.setRow_ ?_ ?_ _) | go_size)))
    · have ht := T.ok_of (t := t) (by omega) (by omega)
      go_enter Try.func3, Try.ntmps3
      go_wp2_with (first | (go_at_call 7; refine (Right_yes t (by omega) (by omega) _).mono ?_; rintro _ _ ⟨rfl, g, rfl⟩; have sg0 : w.heap.size < g.val.heap.size := (Nat.lt_of_lt_of_le (by go_size) g.size); have sg1 : w.heap.size + 1 < g.val.heap.size := (Nat.lt_of_lt_of_le (by go_size) g.size); have sg2 : w.heap.size + 1 + 1 < g.val.heap.size := (Nat.lt_of_lt_of_le (by go_size) g.size)) | (go_at_call 9; refine (Left_any d _ _ _ _).mono ?_; rintro _ _ ⟨rfl, g2, rfl⟩; have sg20 : w.heap.size < g2.val.heap.size := (Nat.lt_of_lt_of_le (by go_size) g2.size); have sg21 : w.heap.size + 1 < g2.val.heap.size := (Nat.lt_of_lt_of_le (by go_size) g2.size); have sg22 : w.heap.size + 1 + 1 < g2.val.heap.size := (Nat.lt_of_lt_of_le (by go_size) g2.size)) | (go_at_call 10; refine (refLeft_any d _ _ _ _).mono ?_; rintro _ _ ⟨rfl, g3, rfl⟩; have sg30 : w.heap.size < g3.val.heap.size := (Nat.lt_of_lt_of_le (by go_size) g3.size); have sg31 : w.heap.size + 1 < g3.val.heap.size := (Nat.lt_of_lt_of_le (by go_size) g3.size); have sg32 : w.heap.size + 1 + 1 < g3.val.heap.size := (Nat.lt_of_lt_of_le (by go_size) g3.size)))
      (refine wp_region_grow (by kernel_rfl) (by kernel_rfl) ?_; (repeat (go_big_quiet_step ((first | (go_at_call 11; exact Calls.ext_of (Margin_any t ht _)) | (go_at_call 12; exact Calls.ext_of (refMargin_any t ht _)) | (go_at_call 13; exact Calls.ext_of (Short_any t ht _)) | (go_at_call 14; exact Calls.ext_of (refShort_any t ht _)) | (go_at_call 15; exact Calls.ext_of (Long_any t ht _)) | (go_at_call 16; exact Calls.ext_of (refLong_any t ht _)))))); refine wpQuiet_nil ?_; rintro _ ⟨g4, rfl⟩)
      have sg40 : w.heap.size < g4.val.heap.size := (Nat.lt_of_lt_of_le (by go_size) g4.size); have sg41 : w.heap.size + 1 < g4.val.heap.size := (Nat.lt_of_lt_of_le (by go_size) g4.size); have sg42 : w.heap.size + 1 + 1 < g4.val.heap.size := (Nat.lt_of_lt_of_le (by go_size) g4.size)
      go_wp2
      (refine wp_region_grow (by kernel_rfl) (by kernel_rfl) ?_; (repeat (go_big_quiet_step ((first | (go_at_call 17; exact Calls.ext_of (Legs_any d t ht _ _ _ _)) | (go_at_call 18; exact Calls.ext_of (refLegs_any d t ht _ _ _ _)) | (go_at_call 19; exact Calls.ext_of (Safe_any d t ht _ _ _ _)) | (go_at_call 20; exact Calls.ext_of (refSafe_any d t ht _ _ _ _)) | (go_at_call 8; exact Calls.ext_of (works_any _)))))); refine wpQuiet_nil ?_; rintro _ ⟨g5, rfl⟩)
      go_wp2
      go_ret
      (refine Ret.mk ?_; (repeat' (first | (with_reducible exact Below.refl _ _) | (with_reducible assumption) | (with_reducible refine Ext.up _ ?_) | (with_reducible refine Below.alloc ?_ ?_ _) | (with_reducible refine Below.drew ?_) | (with_reducible refine Below.setCell ?_ ?_ _) | (with_reducible refine Below.setRow_ ?_ ?_ _) | go_size)))
end Go.Proofs.Ytcbdoiiahbmneaa

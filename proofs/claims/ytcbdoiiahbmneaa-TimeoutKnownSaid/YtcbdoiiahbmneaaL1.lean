/- What is proved: the walk of TimeoutLater of layer 19. -/
import Derived.Test.YtcbdoiiahbmneaaS1
namespace Go.Proofs.Ytcbdoiiahbmneaa
open Go.RowKit
attribute [local go_sem ↓] rowOf_cell
theorem mx0_fold_sub (l m : Int) : (if m < l then l - m else 0) = mx0 (l - m) := by unfold mx0; split <;> split <;> omega
attribute [local go_sem] mx0_fold mx0_fold' mx0_fold_sub

theorem mx0_lt (v : Int) : 0 ≤ mx0 v ∧ v ≤ mx0 v ∧ (mx0 v = v ∨ mx0 v = 0) := by unfold mx0; split <;> omega
theorem mx0_less (x y m : Int) (h : 0 ≤ m) : mx0 (x - (y + m)) = mx0 (mx0 (x - y) - m) := by unfold mx0; (repeat' split) <;> omega
theorem mx0_le {x m k : Int} (h : 0 ≤ m) (hx : mx0 x < k) : mx0 (mx0 x - m) < k := by
  have := mx0_lt x; have := mx0_lt (mx0 x - m); omega
theorem clk_add (a b c m i : Int) (h : i = 0 ∨ i = 1 ∨ i = 2) : clk (a + m) (b + m) (c + m) i = clk a b c i + m := by
  rcases h with rfl | rfl | rfl <;> rfl

/-- The deal, its numbers brought into their places. -/
def D.put (d : D) : D := { d with role := 1, px := pick d.px 3, pz := pick d.pz 1073741824, gx := pick d.gx 3, gz := pick d.gz 1073741824 }
section
variable {t : T} (ht : t.Ok) (d : D) {a b c m : Int} (ha : 0 ≤ a ∧ a < 1073741824) (hb : 0 ≤ b ∧ b < 1073741824) (hc : 0 ≤ c ∧ c < 1073741824) (hm : 0 ≤ m ∧ m < 1073741824)
include ha hb hc
theorem put_left : d.put.leftP a b c = mx0 (pick d.pz 1073741824 - clk a b c (pick d.px 3)) ∧ d.put.leftG a b c = mx0 (pick d.gz 1073741824 - clk a b c (pick d.gx 3)) := by
  have h1 := clk_bd ha hb hc (pick d.px 3)
  have h2 := clk_bd ha hb hc (pick d.gx 3)
  have h3 := pick_bd d.pz 1073741824 (by omega)
  have h4 := pick_bd d.gz 1073741824 (by omega)
  constructor
  · unfold D.leftP D.put; simp only; rw [IntWalk.wrap64_in _ (by omega)]
  · unfold D.leftG D.put; simp only; rw [IntWalk.wrap64_in _ (by omega)]
include hm
theorem put_later : d.put.leftP (a + m) (b + m) (c + m) = mx0 (d.put.leftP a b c - m) ∧ d.put.leftG (a + m) (b + m) (c + m) = mx0 (d.put.leftG a b c - m) := by
  have h1 := clk_bd ha hb hc (pick d.px 3)
  have h2 := clk_bd ha hb hc (pick d.gx 3)
  have h3 := pick_bd d.pz 1073741824 (by omega)
  have h4 := pick_bd d.gz 1073741824 (by omega)
  have h5 := pick_bd d.px 3 (by omega)
  have h6 := pick_bd d.gx 3 (by omega)
  rw [(put_left d ha hb hc).1, (put_left d ha hb hc).2]
  constructor
  · unfold D.leftP D.put
    simp only
    rw [clk_add _ _ _ _ _ (by omega), IntWalk.wrap64_in _ (by omega), mx0_less _ _ _ hm.1]
  · unfold D.leftG D.put
    simp only
    rw [clk_add _ _ _ _ _ (by omega), IntWalk.wrap64_in _ (by omega), mx0_less _ _ _ hm.1]
end
theorem put_bd (d : D) (a b c : Int) (ha : 0 ≤ a ∧ a < 1073741824) (hb : 0 ≤ b ∧ b < 1073741824) (hc : 0 ≤ c ∧ c < 1073741824) : 0 ≤ d.put.leftP a b c ∧ d.put.leftP a b c < 1073741824 ∧ 0 ≤ d.put.leftG a b c ∧ d.put.leftG a b c < 1073741824 := by
  have h1 := clk_bd ha hb hc (pick d.px 3)
  have h2 := clk_bd ha hb hc (pick d.gx 3)
  have h3 := pick_bd d.pz 1073741824 (by omega)
  have h4 := pick_bd d.gz 1073741824 (by omega)
  rw [(put_left d ha hb hc).1, (put_left d ha hb hc).2]
  unfold mx0; (repeat' split) <;> omega

set_option maxRecDepth 100000 in
set_option maxHeartbeats 1000000 in
theorem Later_right (t : T) (ht : t.Ok) (h1 : 0 ≤ t.lo) (h2 : t.hi ≤ 1024) (d : D) (a b c x : Int) (w : World) : Calls Try.prog 5 #[(.agg t.cells), (.agg d.cells), (.agg #[.int .i64 a, .int .i64 b, .int .i64 c]), .int .i64 x] w (Ret (.bool true) w) := by
  have ha := pick_bd a 1073741824 (by omega)
  have hb := pick_bd b 1073741824 (by omega)
  have hc := pick_bd c 1073741824 (by omega)
  have hx := pick_bd x 1073741824 (by omega)
  have hl := put_later d ha hb hc hx
  have hd := put_bd d _ _ _ ha hb hc
  obtain ⟨hl1, hl2⟩ := hl
  have hm := ht.mar
  by_cases hs : d.put.leftG (pick a 1073741824) (pick b 1073741824) (pick c 1073741824) < t.mar
  · have e0 := safe_first_yes d.put t (pick a 1073741824) (pick b 1073741824) (pick c 1073741824) rfl hs
    have e1 := safe_first_yes d.put t (pick a 1073741824 + pick x 1073741824) (pick b 1073741824 + pick x 1073741824) (pick c 1073741824 + pick x 1073741824) rfl (by rw [hl2]; have := mx0_lt (d.put.leftG (pick a 1073741824) (pick b 1073741824) (pick c 1073741824) - pick x 1073741824); omega)
    have hs' : ¬ t.mar ≤ d.put.leftG (pick a 1073741824) (pick b 1073741824) (pick c 1073741824) := by omega
    simp only [D.put] at e0 e1 hl1 hl2 hs hs' hd
    go_enter Try.func5, Try.ntmps5
    go_wp2_with (first | (go_at_call 7; refine (Right_yes t h1 h2 _).mono ?_; rintro _ _ ⟨rfl, g, rfl⟩; have sg0 : w.heap.size < g.val.heap.size := (Nat.lt_of_lt_of_le (by go_size) g.size); have sg1 : w.heap.size + 1 < g.val.heap.size := (Nat.lt_of_lt_of_le (by go_size) g.size); have sg2 : w.heap.size + 1 + 1 < g.val.heap.size := (Nat.lt_of_lt_of_le (by go_size) g.size); have ug0 : ¬ w.heap.size = g.val.heap.size := (Nat.ne_of_lt sg0); have vg0 : ¬ g.val.heap.size = w.heap.size := (Nat.ne_of_gt sg0); have tg0 : w.heap.size < g.val.heap.size + 1 := (Nat.lt_succ_of_lt sg0); have ug1 : ¬ w.heap.size + 1 = g.val.heap.size := (Nat.ne_of_lt sg1); have vg1 : ¬ g.val.heap.size = w.heap.size + 1 := (Nat.ne_of_gt sg1); have tg1 : w.heap.size + 1 < g.val.heap.size + 1 := (Nat.lt_succ_of_lt sg1); have ug2 : ¬ w.heap.size + 1 + 1 = g.val.heap.size := (Nat.ne_of_lt sg2); have vg2 : ¬ g.val.heap.size = w.heap.size + 1 + 1 := (Nat.ne_of_gt sg2); have tg2 : w.heap.size + 1 + 1 < g.val.heap.size + 1 := (Nat.lt_succ_of_lt sg2)) | (go_at_call 21; refine (Pick_same _ _ (by omega) (by omega) _).mono ?_; rintro _ _ ⟨rfl, rfl⟩))
    refine wp_loop_rounds 4 ?_
    rw [rounds_succ]
    go_wp2_with (go_at_call 21; refine (Pick_same _ _ (by omega) (by omega) _).mono ?_; rintro _ _ ⟨rfl, rfl⟩)
    rw [rounds_succ]
    go_wp2_with (go_at_call 21; refine (Pick_same _ _ (by omega) (by omega) _).mono ?_; rintro _ _ ⟨rfl, rfl⟩)
    rw [rounds_succ]
    go_wp2_with (go_at_call 21; refine (Pick_same _ _ (by omega) (by omega) _).mono ?_; rintro _ _ ⟨rfl, rfl⟩)
    rw [rounds_succ]
    go_wp2_with (first | (go_at_call 9; refine (Left_any _ _ _ _ _).mono ?_; rintro _ _ ⟨rfl, g2, rfl⟩; have sg20 : w.heap.size < g2.val.heap.size := (Nat.lt_of_lt_of_le (by go_size) g2.size); have sg21 : w.heap.size + 1 < g2.val.heap.size := (Nat.lt_of_lt_of_le (by go_size) g2.size); have sg22 : w.heap.size + 1 + 1 < g2.val.heap.size := (Nat.lt_of_lt_of_le (by go_size) g2.size); have sgN : g.val.heap.size < g2.val.heap.size := (Nat.lt_of_lt_of_le (by go_size) g2.size)) | (go_at_call 19; refine (Safe_any _ t ht _ _ _ _).mono ?_; rintro _ _ ⟨rfl, g3, rfl⟩; have sg30 : w.heap.size < g3.val.heap.size := (Nat.lt_of_lt_of_le (by go_size) g3.size); have sg31 : w.heap.size + 1 < g3.val.heap.size := (Nat.lt_of_lt_of_le (by go_size) g3.size); have sg32 : w.heap.size + 1 + 1 < g3.val.heap.size := (Nat.lt_of_lt_of_le (by go_size) g3.size); have sgN : g.val.heap.size < g3.val.heap.size := (Nat.lt_of_lt_of_le (by go_size) g3.size)) | (go_at_call 11; refine (Margin_any t ht _).mono ?_; rintro _ _ ⟨rfl, g4, rfl⟩; have sg40 : w.heap.size < g4.val.heap.size := (Nat.lt_of_lt_of_le (by go_size) g4.size); have sg41 : w.heap.size + 1 < g4.val.heap.size := (Nat.lt_of_lt_of_le (by go_size) g4.size); have sg42 : w.heap.size + 1 + 1 < g4.val.heap.size := (Nat.lt_of_lt_of_le (by go_size) g4.size)) | (go_at_call 8; refine (works_any _).mono ?_; rintro _ _ ⟨rfl, g5, rfl⟩))
    go_ret
    refine Ret.mk_of ?_ (congrArg Value.bool (a₂ := true) ?_)
    · (repeat' (first | (with_reducible exact Below.refl _ _) | (with_reducible assumption) | (with_reducible refine Ext.up _ ?_) | (with_reducible refine Below.alloc ?_ ?_ _) | (with_reducible refine Below.drew ?_) | (with_reducible refine Below.setCell ?_ ?_ _) | (with_reducible refine Below.setRow_ ?_ ?_ _) | go_size))
    · simpa using hs
  · have e0 := safe_first_no d.put t (pick a 1073741824) (pick b 1073741824) (pick c 1073741824) rfl hs
    have hs' : decide (t.mar ≤ d.put.leftG (pick a 1073741824) (pick b 1073741824) (pick c 1073741824)) = true := by simpa using hs
    simp only [D.put] at e0 hl1 hl2 hs hs' hd
    go_enter Try.func5, Try.ntmps5
    go_wp2_with (first | (go_at_call 7; refine (Right_yes t h1 h2 _).mono ?_; rintro _ _ ⟨rfl, g, rfl⟩; have sg0 : w.heap.size < g.val.heap.size := (Nat.lt_of_lt_of_le (by go_size) g.size); have sg1 : w.heap.size + 1 < g.val.heap.size := (Nat.lt_of_lt_of_le (by go_size) g.size); have sg2 : w.heap.size + 1 + 1 < g.val.heap.size := (Nat.lt_of_lt_of_le (by go_size) g.size); have ug0 : ¬ w.heap.size = g.val.heap.size := (Nat.ne_of_lt sg0); have vg0 : ¬ g.val.heap.size = w.heap.size := (Nat.ne_of_gt sg0); have tg0 : w.heap.size < g.val.heap.size + 1 := (Nat.lt_succ_of_lt sg0); have ug1 : ¬ w.heap.size + 1 = g.val.heap.size := (Nat.ne_of_lt sg1); have vg1 : ¬ g.val.heap.size = w.heap.size + 1 := (Nat.ne_of_gt sg1); have tg1 : w.heap.size + 1 < g.val.heap.size + 1 := (Nat.lt_succ_of_lt sg1); have ug2 : ¬ w.heap.size + 1 + 1 = g.val.heap.size := (Nat.ne_of_lt sg2); have vg2 : ¬ g.val.heap.size = w.heap.size + 1 + 1 := (Nat.ne_of_gt sg2); have tg2 : w.heap.size + 1 + 1 < g.val.heap.size + 1 := (Nat.lt_succ_of_lt sg2)) | (go_at_call 21; refine (Pick_same _ _ (by omega) (by omega) _).mono ?_; rintro _ _ ⟨rfl, rfl⟩))
    refine wp_loop_rounds 4 ?_
    rw [rounds_succ]
    go_wp2_with (go_at_call 21; refine (Pick_same _ _ (by omega) (by omega) _).mono ?_; rintro _ _ ⟨rfl, rfl⟩)
    rw [rounds_succ]
    go_wp2_with (go_at_call 21; refine (Pick_same _ _ (by omega) (by omega) _).mono ?_; rintro _ _ ⟨rfl, rfl⟩)
    rw [rounds_succ]
    go_wp2_with (go_at_call 21; refine (Pick_same _ _ (by omega) (by omega) _).mono ?_; rintro _ _ ⟨rfl, rfl⟩)
    rw [rounds_succ]
    go_wp2_with (first | (go_at_call 9; refine (Left_any _ _ _ _ _).mono ?_; rintro _ _ ⟨rfl, g2, rfl⟩; have sg20 : w.heap.size < g2.val.heap.size := (Nat.lt_of_lt_of_le (by go_size) g2.size); have sg21 : w.heap.size + 1 < g2.val.heap.size := (Nat.lt_of_lt_of_le (by go_size) g2.size); have sg22 : w.heap.size + 1 + 1 < g2.val.heap.size := (Nat.lt_of_lt_of_le (by go_size) g2.size); have sgN : g.val.heap.size < g2.val.heap.size := (Nat.lt_of_lt_of_le (by go_size) g2.size)) | (go_at_call 19; refine (Safe_any _ t ht _ _ _ _).mono ?_; rintro _ _ ⟨rfl, g3, rfl⟩; have sg30 : w.heap.size < g3.val.heap.size := (Nat.lt_of_lt_of_le (by go_size) g3.size); have sg31 : w.heap.size + 1 < g3.val.heap.size := (Nat.lt_of_lt_of_le (by go_size) g3.size); have sg32 : w.heap.size + 1 + 1 < g3.val.heap.size := (Nat.lt_of_lt_of_le (by go_size) g3.size); have sgN : g.val.heap.size < g3.val.heap.size := (Nat.lt_of_lt_of_le (by go_size) g3.size)) | (go_at_call 11; refine (Margin_any t ht _).mono ?_; rintro _ _ ⟨rfl, g4, rfl⟩; have sg40 : w.heap.size < g4.val.heap.size := (Nat.lt_of_lt_of_le (by go_size) g4.size); have sg41 : w.heap.size + 1 < g4.val.heap.size := (Nat.lt_of_lt_of_le (by go_size) g4.size); have sg42 : w.heap.size + 1 + 1 < g4.val.heap.size := (Nat.lt_of_lt_of_le (by go_size) g4.size)) | (go_at_call 8; refine (works_any _).mono ?_; rintro _ _ ⟨rfl, g5, rfl⟩))
    go_ret
    (refine Ret.mk ?_; (repeat' (first | (with_reducible exact Below.refl _ _) | (with_reducible assumption) | (with_reducible refine Ext.up _ ?_) | (with_reducible refine Below.alloc ?_ ?_ _) | (with_reducible refine Below.drew ?_) | (with_reducible refine Below.setCell ?_ ?_ _) | (with_reducible refine Below.setRow_ ?_ ?_ _) | go_size)))
end Go.Proofs.Ytcbdoiiahbmneaa

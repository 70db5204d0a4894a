/- What is proved: what Right, terms, Pick, deal and works of layer 19's statements return. -/
import Derived.Test.YtcbdoiiahbmneaaT3
namespace Go.Proofs.Ytcbdoiiahbmneaa
open Go.RowKit

def T.lo (t : T) : Int := min4 t.depth t.delay t.lag t.fast
def T.hi (t : T) : Int := max4 t.depth t.delay t.lag t.fast
theorem T.ok_of {t : T} (h1 : 0 ≤ t.lo) (h2 : t.hi ≤ 1024) : t.Ok := by
  have a := min4_le t.depth t.delay t.lag t.fast
  have b := le_max4 t.depth t.delay t.lag t.fast
  unfold T.lo at h1
  unfold T.hi at h2
  constructor <;> omega

theorem Right_yes (t : T) (h1 : 0 ≤ t.lo) (h2 : t.hi ≤ 1024) (w : World) : Calls Try.prog 7 #[(.agg t.cells)] w (Ret (.bool true) w) := by
  have h1' : (0 : Int) ≤ min4 t.depth t.delay t.lag t.fast := h1
  have h2' : max4 t.depth t.delay t.lag t.fast ≤ 1024 := h2
  go_enter Try.func7, Try.ntmps7
  go_wp2
  go_ret
  (refine Ret.mk ?_; (repeat' (first | (with_reducible exact Below.refl _ _) | (with_reducible assumption) | (with_reducible refine Ext.up _ ?_) | (with_reducible refine Below.alloc ?_ ?_ _) | (with_reducible refine Below.drew ?_) | (with_reducible refine Below.setCell ?_ ?_ _) | (with_reducible refine Below.setRow_ ?_ ?_ _) | go_size)))
theorem Right_no1 (t : T) (h1 : t.lo < 0) (w : World) : Calls Try.prog 7 #[(.agg t.cells)] w (Ret (.bool false) w) := by
  have h1' : min4 t.depth t.delay t.lag t.fast < 0 := h1
  go_enter Try.func7, Try.ntmps7
  go_wp2
  go_ret
  (refine Ret.mk ?_; (repeat' (first | (with_reducible exact Below.refl _ _) | (with_reducible assumption) | (with_reducible refine Ext.up _ ?_) | (with_reducible refine Below.alloc ?_ ?_ _) | (with_reducible refine Below.drew ?_) | (with_reducible refine Below.setCell ?_ ?_ _) | (with_reducible refine Below.setRow_ ?_ ?_ _) | go_size)))
theorem Right_no2 (t : T) (h1 : 0 ≤ t.lo) (h2 : 1024 < t.hi) (w : World) : Calls Try.prog 7 #[(.agg t.cells)] w (Ret (.bool false) w) := by
  have h1' : (0 : Int) ≤ min4 t.depth t.delay t.lag t.fast := h1
  have h2' : decide (max4 t.depth t.delay t.lag t.fast ≤ 1024) = false := by
    have : 1024 < max4 t.depth t.delay t.lag t.fast := h2
    simpa using this
  go_enter Try.func7, Try.ntmps7
  go_wp2
  go_ret
  (refine Ret.mk ?_; (repeat' (first | (with_reducible exact Below.refl _ _) | (with_reducible assumption) | (with_reducible refine Ext.up _ ?_) | (with_reducible refine Below.alloc ?_ ?_ _) | (with_reducible refine Below.drew ?_) | (with_reducible refine Below.setCell ?_ ?_ _) | (with_reducible refine Below.setRow_ ?_ ?_ _) | go_size)))

def T.terms : T := ⟨0, 0, 0, 0, 0, 2, 3, 4, 2⟩
theorem T.terms_ok : T.terms.Ok := by constructor <;> decide
theorem terms_any (w : World) : Calls Try.prog 23 #[] w (Ret (.agg T.terms.cells) w) := by
  go_enter Try.func23, Try.ntmps23
  go_wp2
  (refine bodyPost_ret (results23 _ _ Try.results23 _ rfl ?_ ?_) rfl (Ret.mk ?_); (focus (first | rfl | (simp [go_sem, *]; done) | (simp [go_sem, *]; rfl))); (focus (first | rfl | (simp [go_sem]; done))); (repeat' (first | (with_reducible exact Below.refl _ _) | (with_reducible assumption) | (with_reducible refine Ext.up _ ?_) | (with_reducible refine Below.alloc ?_ ?_ _) | (with_reducible refine Below.drew ?_) | (with_reducible refine Below.setCell ?_ ?_ _) | (with_reducible refine Below.setRow_ ?_ ?_ _) | go_size)))

/-- Pick. -/
def pick (v n : Int) : Int := if n < 1 then 0 else v % n
theorem pick_bd (v n : Int) (h : 1 ≤ n) : 0 ≤ pick v n ∧ pick v n < n := by
  unfold pick; rw [if_neg (by omega)]; exact ⟨Int.emod_nonneg _ (by omega), Int.emod_lt_of_pos _ (by omega)⟩
theorem tmod_cases (v n : Int) (h : 1 ≤ n) : (v.tmod n < 0 ∧ v.tmod n + n = v % n ∧ -n < v.tmod n) ∨ (0 ≤ v.tmod n ∧ v.tmod n = v % n) := by
  have h2 := @Int.tmod_eq_emod v n
  have h3 := Int.emod_nonneg v (show n ≠ 0 by omega)
  have h4 := Int.emod_lt_of_pos v (show 0 < n by omega)
  split at h2 <;> omega
theorem Pick_none (v n : Int) (h : n < 1) (w : World) : Calls Try.prog 21 #[.int .i64 v, .int .i64 n] w (Ret (.int .i64 (pick v n)) w) := by
  have e : pick v n = 0 := if_pos h
  rw [e]
  clear e
  go_enter Try.func21, Try.ntmps21
  go_wp2
  go_ret
  (refine Ret.mk ?_; (repeat' (first | (with_reducible exact Below.refl _ _) | (with_reducible assumption) | (with_reducible refine Ext.up _ ?_) | (with_reducible refine Below.alloc ?_ ?_ _) | (with_reducible refine Below.drew ?_) | (with_reducible refine Below.setCell ?_ ?_ _) | (with_reducible refine Below.setRow_ ?_ ?_ _) | go_size)))
theorem Pick_any (v n : Int) (h : 1 ≤ n) (hn : n ≤ 9223372036854775807) (w : World) : Calls Try.prog 21 #[.int .i64 v, .int .i64 n] w (Ret (.int .i64 (pick v n)) w) := by
  have e : pick v n = v % n := if_neg (by omega)
  rw [e]
  clear e
  rcases tmod_cases v n h with ⟨h1, h2, h3⟩ | ⟨h1, h2⟩
  · rw [← h2]
    clear h2
    go_enter Try.func21, Try.ntmps21
    go_wp2
    go_ret
    (refine Ret.mk ?_; (repeat' (first | (with_reducible exact Below.refl _ _) | (with_reducible assumption) | (with_reducible refine Ext.up _ ?_) | (with_reducible refine Below.alloc ?_ ?_ _) | (with_reducible refine Below.drew ?_) | (with_reducible refine Below.setCell ?_ ?_ _) | (with_reducible refine Below.setRow_ ?_ ?_ _) | go_size)))
  · rw [← h2]
    clear h2
    go_enter Try.func21, Try.ntmps21
    go_wp2
    go_ret
    (refine Ret.mk ?_; (repeat' (first | (with_reducible exact Below.refl _ _) | (with_reducible assumption) | (with_reducible refine Ext.up _ ?_) | (with_reducible refine Below.alloc ?_ ?_ _) | (with_reducible refine Below.drew ?_) | (with_reducible refine Below.setCell ?_ ?_ _) | (with_reducible refine Below.setRow_ ?_ ?_ _) | go_size)))

def D.made (first : Bool) (p g : Int) : D := ⟨0, if first then 1 else 2, pick p 3, 0, 0, (pick p 3 + 1 + pick g 2) % 3, 0, 0, fun _ => 0, 0⟩
theorem deal_first (p g : Int) (w : World) : Calls Try.prog 22 #[.bool true, .int .i64 p, .int .i64 g] w (Ret (.agg (D.made true p g).cells) w) := by
  have b1 := pick_bd p 3 (by omega)
  have b2 := pick_bd g 2 (by omega)
  go_enter Try.func22, Try.ntmps22
  go_wp2_with (go_at_call 21; refine (Pick_any _ _ (by omega) (by omega) _).mono ?_; rintro _ _ ⟨rfl, g1, rfl⟩; have sg10 : w.heap.size < g1.val.heap.size := (Nat.lt_of_lt_of_le (by go_size) g1.size))
  (refine wp_region_grow_tail 10 (by kernel_rfl) (by kernel_rfl) ?_; simp only [List.take_succ_cons, List.take_zero, List.drop_succ_cons, List.drop_zero]; (repeat (go_big_quiet_step (((go_at_call 21; exact Calls.ext_of (Pick_any _ _ (by omega) (by omega) _)))))); refine wpQuiet_nil ?_; rintro _ ⟨g2, rfl⟩)
  have sg20 : w.heap.size < g2.val.heap.size := (Nat.lt_of_lt_of_le (by go_size) g2.size)
  have s2 : g1.val.heap.size < g2.val.heap.size := Nat.lt_of_lt_of_le (by go_size) g2.size
  have s3 : w.heap.size < g1.val.heap.size + 1 := by omega
  have n1 : ¬ w.heap.size = g1.val.heap.size := by omega
  have n2 : ¬ g1.val.heap.size = w.heap.size := by omega
  go_wp2
  (refine bodyPost_ret (results29 _ _ Try.results22 _ rfl ?_ ?_) rfl (Ret.mk ?_); (focus (first | rfl | (simp [go_sem, *]; done) | (simp [go_sem, *]; rfl))); (focus (first | rfl | (simp [go_sem]; done))); (repeat' (first | (with_reducible exact Below.refl _ _) | (with_reducible assumption) | (with_reducible refine Ext.up _ ?_) | (with_reducible refine Below.alloc ?_ ?_ _) | (with_reducible refine Below.drew ?_) | (with_reducible refine Below.setCell ?_ ?_ _) | (with_reducible refine Below.setRow_ ?_ ?_ _) | go_size)))
theorem deal_second (p g : Int) (w : World) : Calls Try.prog 22 #[.bool false, .int .i64 p, .int .i64 g] w (Ret (.agg (D.made false p g).cells) w) := by
  have b1 := pick_bd p 3 (by omega)
  have b2 := pick_bd g 2 (by omega)
  go_enter Try.func22, Try.ntmps22
  go_wp2_with (go_at_call 21; refine (Pick_any _ _ (by omega) (by omega) _).mono ?_; rintro _ _ ⟨rfl, g1, rfl⟩; have sg10 : w.heap.size < g1.val.heap.size := (Nat.lt_of_lt_of_le (by go_size) g1.size))
  (refine wp_region_grow_tail 10 (by kernel_rfl) (by kernel_rfl) ?_; simp only [List.take_succ_cons, List.take_zero, List.drop_succ_cons, List.drop_zero]; (repeat (go_big_quiet_step (((go_at_call 21; exact Calls.ext_of (Pick_any _ _ (by omega) (by omega) _)))))); refine wpQuiet_nil ?_; rintro _ ⟨g2, rfl⟩)
  have sg20 : w.heap.size < g2.val.heap.size := (Nat.lt_of_lt_of_le (by go_size) g2.size)
  have s2 : g1.val.heap.size < g2.val.heap.size := Nat.lt_of_lt_of_le (by go_size) g2.size
  have s3 : w.heap.size < g1.val.heap.size + 1 := by omega
  have n1 : ¬ w.heap.size = g1.val.heap.size := by omega
  have n2 : ¬ g1.val.heap.size = w.heap.size := by omega
  go_wp2
  (refine bodyPost_ret (results29 _ _ Try.results22 _ rfl ?_ ?_) rfl (Ret.mk ?_); (focus (first | rfl | (simp [go_sem, *]; done) | (simp [go_sem, *]; rfl))); (focus (first | rfl | (simp [go_sem]; done))); (repeat' (first | (with_reducible exact Below.refl _ _) | (with_reducible assumption) | (with_reducible refine Ext.up _ ?_) | (with_reducible refine Below.alloc ?_ ?_ _) | (with_reducible refine Below.drew ?_) | (with_reducible refine Below.setCell ?_ ?_ _) | (with_reducible refine Below.setRow_ ?_ ?_ _) | go_size)))
end Go.Proofs.Ytcbdoiiahbmneaa

/- What is proved: the walk of SwapNext of layer 23. No condition. -/
import Derived.Test.YtmhbkiabndookaaV8
import Derived.Test.YtmhbkiabndookaaV6
namespace Go.Proofs.Ytmhbkiabndookaa
open Go.RowKit

theorem next_same (t : T) (s : S) (f : F) : s.next t f = s.refNext t f := next_pair t s f
theorem refNext_same (t : T) (ht : t.Ok) (s : S) (f : F) (w : World) : Calls Try.prog 10 #[.agg t.cells, .agg s.cells, .agg f.cells] w (Ret (.tuple #[.int .i64 (s.next t f).1, .agg (s.next t f).2.cells]) w) := by
  rw [next_same]; exact refNext_any t ht s f w

def T.right (t : T) : Prop := 1 ≤ t.depth ∧ (0 ≤ t.delay ∧ 0 ≤ t.lag ∧ 0 ≤ t.fast) ∧ max4 t.depth t.delay t.lag t.fast ≤ 1024
theorem T.right.ok {t : T} (h : t.right) : t.Ok := by
  obtain ⟨h1, h2, h3⟩ := h
  have b := le_max4 t.depth t.delay t.lag t.fast
  constructor <;> omega
theorem Right_yes (t : T) (h : t.right) (w : World) : Calls Try.prog 7 #[.agg t.cells] w (Ret (.bool true) w) := by
  obtain ⟨h1, ⟨h2, h4, h5⟩, h3⟩ := h
  go_enter Try.func7, Try.ntmps7
  go_wp2
  all_goals
    go_ret
    (refine Ret.mk ?_; (repeat' (first | (with_reducible exact Below.refl _ _) | (with_reducible assumption) | (with_reducible refine Ext.up _ ?_) | (with_reducible refine Below.alloc ?_ ?_ _) | (with_reducible refine Below.drew ?_) | (with_reducible refine Below.setCell ?_ ?_ _) | (with_reducible refine Below.setRow_ ?_ ?_ _) | go_size)))
theorem Right_no (t : T) (h : ¬ t.right) (w : World) : Calls Try.prog 7 #[.agg t.cells] w (Ret (.bool false) w) := by
  unfold T.right at h
  by_cases h1 : 1 ≤ t.depth
  · by_cases h2 : 0 ≤ t.delay ∧ 0 ≤ t.lag ∧ 0 ≤ t.fast
    · have h3 : decide (max4 t.depth t.delay t.lag t.fast ≤ 1024) = false := by
        have : ¬ max4 t.depth t.delay t.lag t.fast ≤ 1024 := fun h3 => h ⟨h1, h2, h3⟩
        simpa using this
      clear h
      obtain ⟨h4, h5, h6⟩ := h2
      go_enter Try.func7, Try.ntmps7
      go_wp2
      all_goals
        go_ret
        refine Ret.mk_of ?_ ?_
        · (repeat' (first | (with_reducible exact Below.refl _ _) | (with_reducible assumption) | (with_reducible refine Ext.up _ ?_) | (with_reducible refine Below.alloc ?_ ?_ _) | (with_reducible refine Below.drew ?_) | (with_reducible refine Below.setCell ?_ ?_ _) | (with_reducible refine Below.setRow_ ?_ ?_ _) | go_size))
        · first | rfl | exact congrArg Value.bool h3
    · clear h
      rcases (show t.delay < 0 ∨ t.lag < 0 ∨ t.fast < 0 by omega) with h4 | h4 | h4
      all_goals
        clear h2
        go_enter Try.func7, Try.ntmps7
        go_wp2
        all_goals
          go_ret
          (refine Ret.mk ?_; (repeat' (first | (with_reducible exact Below.refl _ _) | (with_reducible assumption) | (with_reducible refine Ext.up _ ?_) | (with_reducible refine Below.alloc ?_ ?_ _) | (with_reducible refine Below.drew ?_) | (with_reducible refine Below.setCell ?_ ?_ _) | (with_reducible refine Below.setRow_ ?_ ?_ _) | go_size)))
  · clear h
    go_enter Try.func7, Try.ntmps7
    go_wp2
    go_ret
    (refine Ret.mk ?_; (repeat' (first | (with_reducible exact Below.refl _ _) | (with_reducible assumption) | (with_reducible refine Ext.up _ ?_) | (with_reducible refine Below.alloc ?_ ?_ _) | (with_reducible refine Below.drew ?_) | (with_reducible refine Below.setCell ?_ ?_ _) | (with_reducible refine Below.setRow_ ?_ ?_ _) | go_size)))

theorem ext_row {W : World} {b : Nat} {cs : Array Value} (h : rowOf W b = cs) (hb : b < W.heap.size) : ∀ g : Ext W, rowOf g.val b = cs := fun g => by rw [g.row _ hb]; exact h

attribute [local go_sem ↓] rowOf_cell
set_option maxRecDepth 100000 in
set_option maxHeartbeats 4000000 in
theorem SwapNext_walk (t : T) (s : S) (f : F) (w : World) : Calls Try.prog 3 #[.agg t.cells, .agg s.cells, .agg f.cells] w (Ret (.bool true) w) := by
  have k0 : Kp w [(w.heap.size + 1 + 1, f.cells), (w.heap.size + 1, s.cells), (w.heap.size, t.cells)] (((w.alloc (.cells t.cells 23)).alloc (.cells s.cells 31)).alloc (.cells f.cells 34)) := by
    have := (((Kp.first w).alloc t.cells 23).alloc s.cells 31).alloc f.cells 34
    simpa using this
  by_cases hr : t.right
  · have ht := hr.ok
    have hcR := fun w => Right_yes t hr w
    have hN := fun w => Next_any t ht s f w
    have hM := fun w => refNext_same t ht s f w
    clear hr
    generalize (s.next t f).1 = m at *
    generalize (s.next t f).2 = n at *
    go_enter Try.func3, Try.ntmps3
    go_wp2_with fail
    refine at_calls (Kp w _) k0 (fun W1 k1 => ?_)
    clear k0
    refine (hcR _).mono ?_
    rintro _ _ ⟨rfl, g1, rfl⟩
    have k2 := k1.ext g1
    have R0 : rowOf g1.val w.heap.size = t.cells := (k2.row (_, t.cells) (by simp)).1
    have R1 : rowOf g1.val (w.heap.size + 1) = s.cells := (k2.row (_, s.cells) (by simp)).1
    have R2 : rowOf g1.val (w.heap.size + 1 + 1) = f.cells := (k2.row (_, f.cells) (by simp)).1
    clear k1
    generalize g1.val = W2 at *
    clear g1
    go_wp2_with fail
    refine (hN _).mono ?_
    rintro _ _ ⟨rfl, g2, rfl⟩
    have k3 := (k2.ext g2).store S.zero.cells n.cells 31
    clear R0 R1 R2 k2
    have R0 : rowOf _ w.heap.size = t.cells := (k3.row (w.heap.size, t.cells) (by simp)).1
    have R1 : rowOf _ (w.heap.size + 1) = s.cells := (k3.row (w.heap.size + 1, s.cells) (by simp)).1
    have R2 : rowOf _ (w.heap.size + 1 + 1) = f.cells := (k3.row (w.heap.size + 1 + 1, f.cells) (by simp)).1
    go_wp2_with fail
    clear R0 R1 R2
    refine at_calls (Kp w _) k3 (fun W3 k4 => ?_)
    clear k3
    refine (hM _).mono ?_
    rintro _ _ ⟨rfl, g3, rfl⟩
    have k5 := (k4.ext g3).store S.zero.cells n.cells 31
    go_wp2_with fail
    refine at_world (Kp w _) k5 (fun W5 k6 => ?_)
    clear k5 k4
    obtain ⟨a1, _, _, a2⟩ := k6.row (g3.val.heap.size, n.cells) (by simp)
    obtain ⟨b1, _, _, b2⟩ := k6.row (g2.val.heap.size, n.cells) (by simp)
    obtain ⟨c1, _, _, c2⟩ := k6.row (w.heap.size + 1, s.cells) (by simp)
    have e1 := ext_row a1 a2
    have e2 := ext_row b1 b2
    have e3 := ext_row c1 c2
    have kb := k6.below
    clear k6 a1 b1 c1 a2 b2 c2
    generalize g3.val.heap.size = i3 at *
    generalize g2.val.heap.size = i2 at *
    clear g2 g3
    dsimp only at e1 e2 e3
    (refine wp_region_grow (by kernel_rfl) (by kernel_rfl) ?_; (repeat (go_big_quiet_step ((first | (go_at_call 11; exact Calls.ext_of (Over_any s _)) | (go_at_call 12; exact Calls.ext_of (refOver_any s _)) | (go_at_call 8; exact Calls.ext_of (works_any _)))))); refine wpQuiet_nil ?_; rintro _ ⟨g5, rfl⟩)
    go_wp2
    go_ret
    exact Ret.mk_of (g5.up kb) (by simp)
  · have hcR := fun w => Right_no t hr w
    clear hr
    go_enter Try.func3, Try.ntmps3
    go_wp2_with fail
    refine at_calls (Kp w _) k0 (fun W1 k1 => ?_)
    clear k0
    refine (hcR _).mono ?_
    rintro _ _ ⟨rfl, g1, rfl⟩
    have k2 := k1.ext g1
    go_wp2_with (go_at_call 8; refine (works_any _).mono ?_; rintro _ _ ⟨rfl, g2, rfl⟩)
    go_ret
    exact Ret.mk (g2.up k2.below)
end Go.Proofs.Ytmhbkiabndookaa

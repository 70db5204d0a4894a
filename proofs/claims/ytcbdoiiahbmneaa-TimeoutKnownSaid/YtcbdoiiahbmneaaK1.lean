/- What is proved: the walk of TimeoutKnown of layer 19. -/
import Derived.Test.YtcbdoiiahbmneaaL2
import Derived.Test.YtcbdoiiahbmneaaS4
import Derived.Test.YtcbdoiiahbmneaaPSays
namespace Go.Proofs.Ytcbdoiiahbmneaa
open Go.RowKit
attribute [local go_sem ↓] rowOf_cell

def KN : Array Value := #[.int .i64 (-9223372036854775808), .int .i64 (-1), .int .i64 0, .int .i64 1, .int .i64 2, .int .i64 100, .int .i64 1024, .int .i64 1025, .int .i64 1073741824, .int .i64 9223372036854775807]
def kn (j : Nat) : Int := [-9223372036854775808, -1, 0, 1, 2, 100, 1024, 1025, 1073741824, 9223372036854775807].getD j 0
theorem KN_at (j : Nat) (h : j < 10) : KN[j]? = some (.int .i64 (kn j)) := by
  match j, h with
  | 0, _ | 1, _ | 2, _ | 3, _ | 4, _ | 5, _ | 6, _ | 7, _ | 8, _ | 9, _ => rfl
structure KInv (w wr : World) : Prop where
  below : Below w.heap.size w wr
  lt : w.heap.size < wr.heap.size
  row : rowOf wr w.heap.size = KN
theorem KInv.next {w wr w' : World} (h : KInv w wr) (b : Below wr.heap.size wr w') : KInv w w' :=
  ⟨h.below.trans (b.mono h.below.size), Nat.lt_of_lt_of_le h.lt b.size, by unfold rowOf; rw [b.block _ h.lt]; exact h.row⟩

def T.zero : T := ⟨0, 0, 0, 0, 0, 0, 0, 0, 0⟩
theorem zero23 (w : World) : (zeroValue 23).run Try.prog w = .ok (.agg T.zero.cells) w := by kernel_rfl
theorem store23 (w : World) (ρ : Operand → Value) (x y : Operand) (dst : Option Tmp) (ty : TypeId) (pos : String) (af : Array Edge) (gd : Option (Nat × Bool)) (hp : pp (ρ x) = true) (h0 : po (ρ x) = 0) (hv : isAg (ρ y) = true) (hs : soft w (pb (ρ x)) = true) (hr : (rowOf w (pb (ρ x))).size = 9) (hn : (agc (ρ y)).size = 9) (h1 : ones (agc (ρ y)) = true) :
    (execOp ρ ⟨dst, .store 23 x y, ty, pos, af, gd⟩).run Try.prog w = .ok .skip (w.setRow (pb (ρ x)) (agc (ρ y))) :=
  exec_store_row 23 9 (by kernel_rfl) w ρ x y dst ty pos af gd hp h0 hv hs hr hn h1
attribute [local go_sem ↓] zero23 store23

def D.known0 : D := ⟨0, 2, 0, 0, 0, 1, 0, 0, fun _ => 0, 0⟩
def D.known : D := ⟨0, 2, 0, 0, 130, 1, 0, 270, fun _ => 0, 0⟩
theorem legs_known : D.known0.legs T.terms 100 200 0 = D.known := by kernel_rfl
theorem safe_known0 : D.known.safe T.terms 100 200 0 = 0 := by kernel_rfl
theorem safe_known1 : D.known.safe T.terms 100 201 0 = 23 := by kernel_rfl
theorem safe_known2 : D.known.safe T.terms 101 202 0 = 0 := by kernel_rfl
theorem Legs_known (w : World) : Calls Try.prog 17 #[(.agg T.terms.cells), (.agg D.known0.cells), (.agg #[.int .i64 100, .int .i64 200, .int .i64 0])] w (Ret (.agg D.known.cells) w) := by
  rw [← legs_known]; exact Legs_any D.known0 T.terms T.terms_ok 100 200 0 w

set_option maxRecDepth 100000 in
set_option maxHeartbeats 2000000 in
theorem TimeoutKnown_walk (w : World) : Calls Try.prog 6 #[] w (Ret (.bool true) w) := by
  go_enter Try.func6, Try.ntmps6
  go_wp2
  go_loopw [2] (fun i wr => ∃ j : Nat, j ≤ 10 ∧ i = .int .i64 j ∧ KInv w wr) (fun i _ => 10 - (intOf i).toNat)
  case atStart => exact ⟨0, by omega, rfl, ⟨by (repeat' (first | (with_reducible exact Below.refl _ _) | (with_reducible assumption) | (with_reducible refine Ext.up _ ?_) | (with_reducible refine Below.alloc ?_ ?_ _) | (with_reducible refine Below.drew ?_) | (with_reducible refine Below.setCell ?_ ?_ _) | (with_reducible refine Below.setRow_ ?_ ?_ _) | go_size)), by simp, by simp [rowOf_alloc]; rfl⟩⟩
  case round =>
    obtain ⟨j, hj, rfl, inv⟩ := hrel
    by_cases hlt : j < 10
    · have hj' : (j : Int) < 10 := by omega
      go_wp2
      obtain ⟨wo, rfl⟩ : ∃ wo : World, wo = wr := ⟨_, rfl⟩
      go_loopw [3] (fun k wi => ∃ q : Nat, q ≤ 10 ∧ k = .int .i64 q ∧ KInv w wi) (fun k _ => 10 - (intOf k).toNat)
      case atStart => exact ⟨0, by omega, rfl, inv⟩
      case round =>
        obtain ⟨q, hq, rfl, inv'⟩ := hrel
        by_cases hlq : q < 10
        · have hB := inv'.lt
          have hR := inv'.row
          have hkj := KN_at j hlt
          have hkq := KN_at q hlq
          have hq' : (q : Int) < 10 := by omega
          go_wp2
          (refine wp_region_lay_tail 10 9 (fun N => .pointer (some ⟨N, 0, none⟩)) (.cells T.zero.cells 23) (by kernel_rfl) (by kernel_rfl) ?_; simp only [List.take_succ_cons, List.take_zero, List.drop_succ_cons, List.drop_zero]; (repeat (first | (refine grow_lay rfl (fun _ => rfl) (fun _ _ => (by simp [go_sem])) ?_; simp only [Act.put, List.setIfInBounds_toArray, List.set_cons_succ, List.set_cons_zero]) | (refine grow_step rfl (fun K hK => ?_); go_simp; (first | (refine hK _ ?_; clear hK K) | (apply Exists.intro; refine ⟨fun _ => ?_, hK _ ?_⟩; (fail); clear hK K))))); refine (fun N4 w' hN4 lN4 eN4 ⟨g1, he⟩ => ?_); subst he; have rN4 := rowOf_of eN4; have sN4 := soft_of eN4; clear eN4)
          have : ¬ w.heap.size = N4 := (Nat.ne_of_lt (Nat.lt_of_lt_of_le (by go_size) hN4)); have : ¬ N4 = w.heap.size := (Nat.ne_of_gt (Nat.lt_of_lt_of_le (by go_size) hN4))
          have : w.heap.size < g1.val.heap.size := (Nat.lt_of_lt_of_le (by go_size) g1.size)
          have zg1 : wr.heap.size ≤ g1.val.heap.size := (Nat.le_trans (by go_size) g1.size)
          have yN4 : wr.heap.size ≤ N4 := (Nat.le_trans (by go_size) hN4)
          clear hN4
          go_wp2
          (refine wp_region_lay_tail 10 9 (fun N => .pointer (some ⟨N, 0, none⟩)) (.cells T.zero.cells 23) (by kernel_rfl) (by kernel_rfl) ?_; simp only [List.take_succ_cons, List.take_zero, List.drop_succ_cons, List.drop_zero]; (repeat (first | (refine grow_lay rfl (fun _ => rfl) (fun _ _ => (by simp [go_sem])) ?_; simp only [Act.put, List.setIfInBounds_toArray, List.set_cons_succ, List.set_cons_zero]) | (refine grow_step rfl (fun K hK => ?_); go_simp; (first | (refine hK _ ?_; clear hK K) | (apply Exists.intro; refine ⟨fun _ => ?_, hK _ ?_⟩; (fail); clear hK K))))); refine (fun N5 w' hN5 lN5 eN5 ⟨g2, he⟩ => ?_); subst he; have rN5 := rowOf_of eN5; have sN5 := soft_of eN5; clear eN5)
          have : ¬ w.heap.size = N5 := (Nat.ne_of_lt (Nat.lt_of_lt_of_le (by go_size) hN5)); have : ¬ N5 = w.heap.size := (Nat.ne_of_gt (Nat.lt_of_lt_of_le (by go_size) hN5)); have : ¬ N4 = N5 := (Nat.ne_of_lt (Nat.lt_of_lt_of_le (by go_size) hN5)); have : ¬ N5 = N4 := (Nat.ne_of_gt (Nat.lt_of_lt_of_le (by go_size) hN5))
          have : w.heap.size < g2.val.heap.size := (Nat.lt_of_lt_of_le (by go_size) g2.size); have : N4 < g2.val.heap.size := (Nat.lt_of_lt_of_le (by go_size) g2.size)
          have zg2 : wr.heap.size ≤ g2.val.heap.size := (Nat.le_trans (by go_size) g2.size)
          have yN5 : wr.heap.size ≤ N5 := (Nat.le_trans (by go_size) hN5)
          clear hN5
          go_wp2
          (refine wp_region_lay_tail 20 19 (fun N => .pointer (some ⟨N, 0, none⟩)) (.cells D.zero.cells 29) (by kernel_rfl) (by kernel_rfl) ?_; simp only [List.take_succ_cons, List.take_zero, List.drop_succ_cons, List.drop_zero]; (repeat (first | (refine grow_lay rfl (fun _ => rfl) (fun _ _ => (by simp [go_sem])) ?_; simp only [Act.put, List.setIfInBounds_toArray, List.set_cons_succ, List.set_cons_zero]) | (refine grow_step rfl (fun K hK => ?_); go_simp; (first | (refine hK _ ?_; clear hK K) | (apply Exists.intro; refine ⟨fun _ => ?_, hK _ ?_⟩; (fail); clear hK K))))); refine (fun N6 w' hN6 lN6 eN6 ⟨g3, he⟩ => ?_); subst he; have rN6 := rowOf_of eN6; have sN6 := soft_of eN6; clear eN6)
          have : ¬ w.heap.size = N6 := (Nat.ne_of_lt (Nat.lt_of_lt_of_le (by go_size) hN6)); have : ¬ N6 = w.heap.size := (Nat.ne_of_gt (Nat.lt_of_lt_of_le (by go_size) hN6)); have : ¬ N4 = N6 := (Nat.ne_of_lt (Nat.lt_of_lt_of_le (by go_size) hN6)); have : ¬ N6 = N4 := (Nat.ne_of_gt (Nat.lt_of_lt_of_le (by go_size) hN6)); have : ¬ N5 = N6 := (Nat.ne_of_lt (Nat.lt_of_lt_of_le (by go_size) hN6)); have : ¬ N6 = N5 := (Nat.ne_of_gt (Nat.lt_of_lt_of_le (by go_size) hN6))
          have : w.heap.size < g3.val.heap.size := (Nat.lt_of_lt_of_le (by go_size) g3.size); have : N4 < g3.val.heap.size := (Nat.lt_of_lt_of_le (by go_size) g3.size); have : N5 < g3.val.heap.size := (Nat.lt_of_lt_of_le (by go_size) g3.size)
          have zg3 : wr.heap.size ≤ g3.val.heap.size := (Nat.le_trans (by go_size) g3.size)
          have yN6 : wr.heap.size ≤ N6 := (Nat.le_trans (by go_size) hN6)
          clear hN6
          go_wp2
          (refine wp_region_lay_tail 10 9 (fun N => .pointer (some ⟨N, 0, none⟩)) (.cells #[.int .i64 0, .int .i64 0, .int .i64 0] 30) (by kernel_rfl) (by kernel_rfl) ?_; simp only [List.take_succ_cons, List.take_zero, List.drop_succ_cons, List.drop_zero]; (repeat (first | (refine grow_lay rfl (fun _ => rfl) (fun _ _ => (by simp [go_sem])) ?_; simp only [Act.put, List.setIfInBounds_toArray, List.set_cons_succ, List.set_cons_zero]) | (refine grow_step rfl (fun K hK => ?_); go_simp; (first | (refine hK _ ?_; clear hK K) | (apply Exists.intro; refine ⟨fun _ => ?_, hK _ ?_⟩; (fail); clear hK K))))); refine (fun N7 w' hN7 lN7 eN7 ⟨g4, he⟩ => ?_); subst he; have rN7 := rowOf_of eN7; have sN7 := soft_of eN7; clear eN7)
          have : ¬ w.heap.size = N7 := (Nat.ne_of_lt (Nat.lt_of_lt_of_le (by go_size) hN7)); have : ¬ N7 = w.heap.size := (Nat.ne_of_gt (Nat.lt_of_lt_of_le (by go_size) hN7)); have : ¬ N4 = N7 := (Nat.ne_of_lt (Nat.lt_of_lt_of_le (by go_size) hN7)); have : ¬ N7 = N4 := (Nat.ne_of_gt (Nat.lt_of_lt_of_le (by go_size) hN7)); have : ¬ N5 = N7 := (Nat.ne_of_lt (Nat.lt_of_lt_of_le (by go_size) hN7)); have : ¬ N7 = N5 := (Nat.ne_of_gt (Nat.lt_of_lt_of_le (by go_size) hN7)); have : ¬ N6 = N7 := (Nat.ne_of_lt (Nat.lt_of_lt_of_le (by go_size) hN7)); have : ¬ N7 = N6 := (Nat.ne_of_gt (Nat.lt_of_lt_of_le (by go_size) hN7))
          have : w.heap.size < g4.val.heap.size := (Nat.lt_of_lt_of_le (by go_size) g4.size); have : N4 < g4.val.heap.size := (Nat.lt_of_lt_of_le (by go_size) g4.size); have : N5 < g4.val.heap.size := (Nat.lt_of_lt_of_le (by go_size) g4.size); have : N6 < g4.val.heap.size := (Nat.lt_of_lt_of_le (by go_size) g4.size)
          have zg4 : wr.heap.size ≤ g4.val.heap.size := (Nat.le_trans (by go_size) g4.size)
          have yN7 : wr.heap.size ≤ N7 := (Nat.le_trans (by go_size) hN7)
          clear hN7
          go_wp2
          (refine wp_region_grow (by kernel_rfl) (by kernel_rfl) ?_; (repeat (go_big_quiet_step ((first | (go_at_call 23; exact Calls.ext_of (terms_any _)) | (go_at_call 3; exact Calls.ext_of (TimeoutSays_walk _ _ _ _ _ _)) | (go_at_call 4; exact Calls.ext_of (TimeoutSafe_walk _ _ _ _ _ _ _ _ _ _)) | (go_at_call 5; exact Calls.ext_of (TimeoutLater_walk _ _ _ _ _ _ _)))))); refine wpQuiet_nil ?_; rintro _ ⟨g5, rfl⟩)
          go_wp2
          go_roundw
          case rel =>
            first
              | exact ⟨q + 1, by omega, rfl, inv'.next (by (repeat' (first | (with_reducible exact Below.refl _ _) | (with_reducible assumption) | (with_reducible refine Ext.up _ ?_) | (with_reducible refine Below.alloc ?_ ?_ _) | (with_reducible refine Below.drew ?_) | (with_reducible refine Below.setCell ?_ ?_ _) | (with_reducible refine Below.setRow_ ?_ ?_ _) | go_size)))⟩
              | ((repeat apply Exists.intro)
                 refine ⟨⟨q + 1, by omega, rfl, inv'.next (by (repeat' (first | (with_reducible exact Below.refl _ _) | (with_reducible assumption) | (with_reducible refine Ext.up _ ?_) | (with_reducible refine Below.alloc ?_ ?_ _) | (with_reducible refine Below.drew ?_) | (with_reducible refine Below.setCell ?_ ?_ _) | (with_reducible refine Below.setRow_ ?_ ?_ _) | go_size)))⟩, ?_⟩
                 first | rfl | (rw [decide_eq_true hj']; rfl))
          case measure => simp [intOf]; omega
        · go_wp2
          go_roundw
          case rel => first | exact ⟨j + 1, by omega, rfl, inv'⟩ | ((repeat apply Exists.intro); exact ⟨⟨j + 1, by omega, rfl, inv'⟩, rfl⟩)
          case measure => simp [intOf]; omega
    · go_wp2
      (refine wp_region_lay_tail 5 4 (fun N => .pointer (some ⟨N, 0, none⟩)) (.cells D.zero.cells 29) (by kernel_rfl) (by kernel_rfl) ?_; simp only [List.take_succ_cons, List.take_zero, List.drop_succ_cons, List.drop_zero]; (repeat (first | (refine grow_lay rfl (fun _ => rfl) (fun _ _ => (by simp [go_sem])) ?_; simp only [Act.put, List.setIfInBounds_toArray, List.set_cons_succ, List.set_cons_zero]) | (refine grow_step rfl (fun K hK => ?_); go_simp; (first | (refine hK _ ?_; clear hK K) | (apply Exists.intro; refine ⟨fun _ => ?_, hK _ ?_⟩; (first | (go_at_call 23; exact terms_any _) | (go_at_call 17; exact Legs_known _)); clear hK K))))); refine (fun N w' hN lN eN ⟨g, he⟩ => ?_); subst he; have rN := rowOf_of eN; have sN := soft_of eN; clear eN)
      have : ¬ wr.heap.size = N := (Nat.ne_of_lt (Nat.lt_of_lt_of_le (by go_size) hN)); have : ¬ N = wr.heap.size := (Nat.ne_of_gt (Nat.lt_of_lt_of_le (by go_size) hN))
      have : wr.heap.size < g.val.heap.size := (Nat.lt_of_lt_of_le (by go_size) g.size)
      have zN : w.heap.size ≤ N := Nat.le_trans inv.below.size (Nat.le_trans (by go_size) hN)
      clear hN
      have hpz : D.known.pz = 130 := rfl
      have hgz : D.known.gz = 270 := rfl
      have hs0 := safe_known0
      have hs1 := safe_known1
      have hs2 := safe_known2
      go_wp2
      (refine wp_region_grow (by kernel_rfl) (by kernel_rfl) ?_; (repeat (go_big_quiet_step ((first | (go_at_call 23; exact Calls.ext_of (terms_any _)) | (go_at_call 19; exact Calls.ext_of (Safe_any D.known T.terms T.terms_ok _ _ _ _)) | (go_at_call 8; exact Calls.ext_of (works_any _)))))); refine wpQuiet_nil ?_; rintro _ ⟨g2, rfl⟩)
      go_wp2
      go_ret
      refine Ret.mk ?_
      have hb := inv.below
      have hz := inv.below.size
      (repeat' (first | (with_reducible exact Below.refl _ _) | (with_reducible assumption) | (with_reducible refine Ext.up _ ?_) | (with_reducible refine Below.alloc ?_ ?_ _) | (with_reducible refine Below.drew ?_) | (with_reducible refine Below.setCell ?_ ?_ _) | (with_reducible refine Below.setRow_ ?_ ?_ _) | go_size))
end Go.Proofs.Ytcbdoiiahbmneaa

/- What is proved: what works of layer 19's statements returns. -/
import Derived.Test.YtcbdoiiahbmneaaT4
import Derived.Test.YtcbdoiiahbmneaaAlloc
namespace Go.Proofs.Ytcbdoiiahbmneaa
open Go.RowKit

def D.work : D := ⟨0, 1, 0, 0, 0, 1, 0, 0, fun _ => 0, 0⟩
def D.worked : D := ⟨0, 1, 0, 0, 170, 1, 0, 230, fun _ => 0, 0⟩
theorem legs_work : D.work.legs T.terms 100 200 0 = D.worked := by kernel_rfl
theorem safe_work0 : D.worked.safe T.terms 100 220 0 = 0 := by kernel_rfl
theorem safe_work1 : D.worked.safe T.terms 100 221 0 = 23 := by kernel_rfl
theorem mar_work : T.terms.mar = 10 := by kernel_rfl
theorem long_work : T.terms.long = 70 := by kernel_rfl
theorem Legs_work (w : World) : Calls Try.prog 17 #[(.agg T.terms.cells), (.agg D.work.cells), (.agg #[.int .i64 100, .int .i64 200, .int .i64 0])] w (Ret (.agg D.worked.cells) w) := by
  rw [← legs_work]; exact Legs_any D.work T.terms T.terms_ok 100 200 0 w
theorem Margin_work (w : World) : Calls Try.prog 11 #[(.agg T.terms.cells)] w (Ret (.int .i64 10) w) := by rw [← mar_work]; exact Margin_any T.terms T.terms_ok w
theorem Long_work (w : World) : Calls Try.prog 15 #[(.agg T.terms.cells)] w (Ret (.int .i64 70) w) := by rw [← long_work]; exact Long_any T.terms T.terms_ok w
theorem works_any (w : World) : Calls Try.prog 8 #[] w (Ret (.bool true) w) := by
  go_enter Try.func8, Try.ntmps8
  go_wp2
  (refine wp_region_lay_tail 5 4 (fun N => .pointer (some ⟨N, 0, none⟩)) (.cells D.zero.cells 29) (by kernel_rfl) (by kernel_rfl) ?_; simp only [List.take_succ_cons, List.take_zero, List.drop_succ_cons, List.drop_zero]; (repeat (first | (refine grow_lay rfl (fun _ => rfl) (fun _ _ => (by simp [go_sem])) ?_; simp only [Act.put, List.setIfInBounds_toArray, List.set_cons_succ, List.set_cons_zero]) | (refine grow_step rfl (fun K hK => ?_); go_simp; (first | (refine hK _ ?_; clear hK K) | (apply Exists.intro; refine ⟨fun _ => ?_, hK _ ?_⟩; (first | (go_at_call 23; exact terms_any _) | (go_at_call 17; exact Legs_work _)); clear hK K))))); refine (fun N w' hN lN eN ⟨g, he⟩ => ?_); subst he; have rN := rowOf_of eN; have sN := soft_of eN; clear eN)
  have sg0 : w.heap.size < g.val.heap.size := (Nat.lt_of_lt_of_le (by go_size) g.size); have bN : w.heap.size ≤ N := (Nat.le_trans (by go_size) hN); have qN0 : w.heap.size < N := (Nat.lt_of_lt_of_le (by go_size) hN); have nN0 : ¬ w.heap.size = N := (Nat.ne_of_lt qN0); have mN0 : ¬ N = w.heap.size := (Nat.ne_of_gt qN0); clear hN
  go_wp2
  have hpz : D.worked.pz = 170 := rfl
  have hgz : D.worked.gz = 230 := rfl
  have hs0 := safe_work0
  have hs1 := safe_work1
  (refine wp_region_grow (by kernel_rfl) (by kernel_rfl) ?_; (repeat (go_big_quiet_step ((first | (go_at_call 23; exact Calls.ext_of (terms_any _)) | (go_at_call 11; exact Calls.ext_of (Margin_work _)) | (go_at_call 15; exact Calls.ext_of (Long_work _)) | (go_at_call 19; exact Calls.ext_of (Safe_any D.worked T.terms T.terms_ok _ _ _ _)))))); refine wpQuiet_nil ?_; rintro _ ⟨g2, rfl⟩)
  go_wp2
  go_ret
  (refine Ret.mk ?_; (repeat' (first | (with_reducible exact Below.refl _ _) | (with_reducible assumption) | (with_reducible refine Ext.up _ ?_) | (with_reducible refine Below.alloc ?_ ?_ _) | (with_reducible refine Below.drew ?_) | (with_reducible refine Below.setCell ?_ ?_ _) | (with_reducible refine Below.setRow_ ?_ ?_ _) | go_size)))
end Go.Proofs.Ytcbdoiiahbmneaa

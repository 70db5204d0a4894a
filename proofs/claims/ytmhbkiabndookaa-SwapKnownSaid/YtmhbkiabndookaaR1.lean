/- What is proved: the walks of Pick and deep (layer 23's statements). No condition. -/
import Derived.Test.YtmhbkiabndookaaQ7
namespace Go.Proofs.Ytmhbkiabndookaa
open Go.RowKit

theorem tmod_pos {v n : Int} (h : 1 ≤ n) : -n < v.tmod n ∧ v.tmod n < n ∧ (v.tmod n < 0 → v.tmod n + n = v % n) ∧ (¬ v.tmod n < 0 → v.tmod n = v % n) := by
  have h0 : v.tmod n = v % n - if 0 ≤ v ∨ n ∣ v then 0 else n.natAbs := Int.tmod_eq_emod
  have h1 := Int.emod_nonneg v (show n ≠ 0 by omega)
  have h2 := Int.emod_lt_of_pos v (show 0 < n by omega)
  have h3 : (n.natAbs : Int) = n := by omega
  rw [h0]
  split
  · omega
  · rename_i hh
    rw [h3]
    have : v % n ≠ 0 := fun e => hh (.inr (Int.dvd_of_emod_eq_zero e))
    omega

theorem Pick_any (v n : Int) (h1 : 1 ≤ n) (h2 : n ≤ 4611686018427387904) (w : World) : Calls Try.prog 16 #[.int .i64 v, .int .i64 n] w (Ret (.int .i64 (v % n)) w) := by
  obtain ⟨a, b, c, d⟩ := tmod_pos (v := v) h1
  have hw : IntKind.i64.wrap (v.tmod n) = v.tmod n := by rw [IntKind.wrap_i64]; omega
  have hn : ¬ n < 1 := by omega
  have hz : (n == 0) = false := by simp; omega
  obtain ⟨r, hr⟩ : ∃ r, r = v.tmod n := ⟨_, rfl⟩
  rw [← hr] at a b c d hw
  have hr' : v.tmod n = r := hr.symm
  clear hr
  by_cases hneg : r < 0
  · have hc := c hneg
    have hs : IntKind.i64.wrap (r + n) = r + n := by rw [IntKind.wrap_i64]; omega
    have HC : Hid (r + n = v % n) := hc
    clear hc c d
    go_enter Try.func16, Try.ntmps16
    go_wp2
    go_ret
    refine Ret.mk_of (by (repeat' (first | (with_reducible exact Below.refl _ _) | (with_reducible assumption) | (with_reducible refine Ext.up _ ?_) | (with_reducible refine Below.alloc ?_ ?_ _) | (with_reducible refine Below.drew ?_) | (with_reducible refine Below.setCell ?_ ?_ _) | (with_reducible refine Below.setRow_ ?_ ?_ _) | go_size))) ?_
    exact congrArg (Value.int .i64) HC.out
  · have hd := d hneg
    have HD : Hid (r = v % n) := hd
    clear hd c d
    go_enter Try.func16, Try.ntmps16
    go_wp2
    go_ret
    refine Ret.mk_of (by (repeat' (first | (with_reducible exact Below.refl _ _) | (with_reducible assumption) | (with_reducible refine Ext.up _ ?_) | (with_reducible refine Below.alloc ?_ ?_ _) | (with_reducible refine Below.drew ?_) | (with_reducible refine Below.setCell ?_ ?_ _) | (with_reducible refine Below.setRow_ ?_ ?_ _) | go_size))) ?_
    exact congrArg (Value.int .i64) HD.out

theorem deep_any (now x : Int) (w : World) : Calls Try.prog 50 #[.int .i64 now, .int .i64 x] w (Ret (.int .i64 (deep now x)) w) := by
  by_cases h : x = 0
  · subst h
    rw [deep_0]
    go_enter Try.func50, Try.ntmps50
    go_wp2
    go_ret
    (refine Ret.mk ?_; (repeat' (first | (with_reducible exact Below.refl _ _) | (with_reducible assumption) | (with_reducible refine Ext.up _ ?_) | (with_reducible refine Below.alloc ?_ ?_ _) | (with_reducible refine Below.drew ?_) | (with_reducible refine Below.setCell ?_ ?_ _) | (with_reducible refine Below.setRow_ ?_ ?_ _) | go_size)))
  · have e : deep now x = wrap64 (wrap64 (now - x) + 1) := if_neg h
    have h' : (x == 0) = false := by simpa using h
    rw [e]
    clear e
    go_enter Try.func50, Try.ntmps50
    go_wp2
    go_ret
    (refine Ret.mk ?_; (repeat' (first | (with_reducible exact Below.refl _ _) | (with_reducible assumption) | (with_reducible refine Ext.up _ ?_) | (with_reducible refine Below.alloc ?_ ?_ _) | (with_reducible refine Below.drew ?_) | (with_reducible refine Below.setCell ?_ ?_ _) | (with_reducible refine Below.setRow_ ?_ ?_ _) | go_size)))
end Go.Proofs.Ytmhbkiabndookaa

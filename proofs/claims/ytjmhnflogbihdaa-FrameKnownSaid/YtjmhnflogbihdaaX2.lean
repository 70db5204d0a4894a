/- What is proved: the walk of mangrovekit.Pick. No condition. -/
import Derived.Test.YtjmhnflogbihdaaX1
namespace Go.Proofs.Ytjmhnflogbihdaa
open Go.RowKit

theorem tmod_pos {v n : Int} (h : 1 ≤ n) : -n < v.tmod n ∧ v.tmod n < n ∧ (v.tmod n < 0 → v.tmod n + n = v % n) ∧ (¬ v.tmod n < 0 → v.tmod n = v % n) := by
  have h0 : v.tmod n = v % n - if 0 ≤ v ∨ n ∣ v then 0 else n.natAbs := Int.tmod_eq_emod
  have h1 := Int.emod_nonneg v (show n ≠ 0 by omega)
  have h2 := Int.emod_lt_of_pos v (show 0 < n by omega)
  have h3 : (n.natAbs : Int) = n := by omega
  rw [h0]
  split
  · omega
  · rename_i hh
    rw [h3]
    have : v % n ≠ 0 := fun e => hh (.inr (Int.dvd_of_emod_eq_zero e))
    omega

theorem Pick_any (v n : Int) (h1 : 1 ≤ n) (h2 : n ≤ 4611686018427387904) (w : World) : Calls Try.prog 19 #[.int .i64 v, .int .i64 n] w (Ret (.int .i64 (v % n)) w) := by
  obtain ⟨a, b, c, d⟩ := tmod_pos (v := v) h1
  have hw : IntKind.i64.wrap (v.tmod n) = v.tmod n := by rw [IntKind.wrap_i64]; omega
  have hn : ¬ n < 1 := by omega
  have hz : (n == 0) = false := by simp; omega
  obtain ⟨r, hr⟩ : ∃ r, r = v.tmod n := ⟨_, rfl⟩
  rw [← hr] at a b c d hw
  have hr' : v.tmod n = r := hr.symm
  clear hr
  by_cases hneg : r < 0
  · have hc := c hneg
    have hs : IntKind.i64.wrap (r + n) = r + n := by rw [IntKind.wrap_i64]; omega
    have HC : Hid (r + n = v % n) := hc
    clear hc c d
    go_enter Try.func19, Try.ntmps19
    go_wp2
    go_ret
    refine Ret.mk_of (by (repeat' (first | (with_reducible exact Below.refl _ _) | (with_reducible assumption) | (with_reducible refine Ext.up _ ?_) | (with_reducible refine Below.alloc ?_ ?_ _) | (with_reducible refine Below.drew ?_) | (with_reducible refine Below.setCell ?_ ?_ _) | (with_reducible refine Below.setRow_ ?_ ?_ _) | go_size))) ?_
    exact congrArg (Value.int .i64) HC.out
  · have hd := d hneg
    have HD : Hid (r = v % n) := hd
    clear hd c d
    go_enter Try.func19, Try.ntmps19
    go_wp2
    go_ret
    refine Ret.mk_of (by (repeat' (first | (with_reducible exact Below.refl _ _) | (with_reducible assumption) | (with_reducible refine Ext.up _ ?_) | (with_reducible refine Below.alloc ?_ ?_ _) | (with_reducible refine Below.drew ?_) | (with_reducible refine Below.setCell ?_ ?_ _) | (with_reducible refine Below.setRow_ ?_ ?_ _) | go_size))) ?_
    exact congrArg (Value.int .i64) HD.out

theorem Pick_nat (v : Int) (m : Nat) (h1 : 1 ≤ m) (h2 : m ≤ 4611686018427387904) (w : World) : Calls Try.prog 19 #[.int .i64 v, .int .i64 (m : Int)] w (fun e w' => ∃ t : Nat, t < m ∧ e = .returned (.int .i64 (t : Int)) ∧ ∃ g : Ext w, w' = g.val) := by
  refine (Pick_any v m (by omega) (by omega) w).mono fun e w' ⟨h, g, hg⟩ => ?_
  have p1 := Int.emod_nonneg v (show (m : Int) ≠ 0 by omega)
  have p2 := Int.emod_lt_of_pos v (show 0 < (m : Int) by omega)
  refine ⟨(v % (m : Int)).toNat, by omega, ?_, g, hg⟩
  rw [h, Int.toNat_of_nonneg p1]
end Go.Proofs.Ytjmhnflogbihdaa

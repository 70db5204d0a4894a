/- What is proved: the walk of FrameBack of layer 4. No condition. -/
import Derived.Test.YtjmhnflogbihdaaG1
namespace Go.Proofs.Ytjmhnflogbihdaa
open Go.RowKit

set_option maxHeartbeats 2000000 in
theorem FrameBack_walk {w : World} {ao bo : Option Addr} {n m c d : Nat} {l more : List Nat} (kind : Int) (hl : Sl w ao n c (bts l)) (hs : Small l) (hmax : n ≤ 9223372036854775807) (hm : Sl w bo m d (bts more)) (hs' : Small more) (hmax' : m ≤ 9223372036854775807) : Calls Try.prog 4 #[.int .i64 kind, .slice ao n c, .slice bo m d] w (Ret (.bool true) w) := by
  have hln : l.length = n := by rw [← hl.len, bts_length]
  have hmn : more.length = m := by rw [← hm.len, bts_length]
  by_cases hbig : 4096 < n
  · have hbig' : (4096 : Int) < n := by omega
    go_enter Try.func4, Try.ntmps4
    go_wp2_with ((go_at_call 9; refine (known_any _).mono ?_; rintro _ _ ⟨rfl, g, rfl⟩))
    go_ret
    (refine Ret.mk ?_; (repeat' (first | (with_reducible exact Below.refl _ _) | (with_reducible assumption) | (with_reducible refine Ext.up _ ?_) | (with_reducible refine Below.alloc ?_ ?_ _) | (with_reducible refine Below.drew ?_) | (with_reducible refine Below.setCell ?_ ?_ _) | (with_reducible refine Below.setRow_ ?_ ?_ _) | go_size)))
  have hbig1 : ¬ (4096 : Int) < n := by omega
  by_cases hbig2 : 4096 < m
  · have hbig' : (4096 : Int) < m := by omega
    go_enter Try.func4, Try.ntmps4
    go_wp2_with ((go_at_call 9; refine (known_any _).mono ?_; rintro _ _ ⟨rfl, g, rfl⟩))
    go_ret
    (refine Ret.mk ?_; (repeat' (first | (with_reducible exact Below.refl _ _) | (with_reducible assumption) | (with_reducible refine Ext.up _ ?_) | (with_reducible refine Below.alloc ?_ ?_ _) | (with_reducible refine Below.drew ?_) | (with_reducible refine Below.setCell ?_ ?_ _) | (with_reducible refine Below.setRow_ ?_ ?_ _) | go_size)))
  have hbig3 : ¬ (4096 : Int) < m := by omega
  by_cases h1 : kind < 1
  · have he : putE kind l.length = 2 := if_pos (.inl h1)
    go_enter Try.func4, Try.ntmps4
    go_wp2_with (first
      | (go_at_call 11; refine (Put_bad hl hs (by omega) he (by decide)).mono ?_; rintro _ w1 ⟨a1, c1, rfl, hb1⟩)
      | (go_at_call 9; refine (known_any _).mono ?_; rintro _ _ ⟨rfl, g, rfl⟩))
    go_ret
    exact Ret.mk_of (g.up hb1) (by simp)
  by_cases h2 : 255 < kind
  · have he : putE kind l.length = 2 := if_pos (.inr h2)
    go_enter Try.func4, Try.ntmps4
    go_wp2_with (first
      | (go_at_call 11; refine (Put_bad hl hs (by omega) he (by decide)).mono ?_; rintro _ w1 ⟨a1, c1, rfl, hb1⟩)
      | (go_at_call 9; refine (known_any _).mono ?_; rintro _ _ ⟨rfl, g, rfl⟩))
    go_ret
    exact Ret.mk_of (g.up hb1) (by simp)
  by_cases h3 : 400 < n
  · have he : putE kind l.length = 5 := by unfold putE; rw [if_neg (by omega), if_pos (by omega)]
    have h3' : (400 : Int) < n := by omega
    go_enter Try.func4, Try.ntmps4
    go_wp2_with (first
      | (go_at_call 11; refine (Put_bad hl hs (by omega) he (by decide)).mono ?_; rintro _ w1 ⟨a1, c1, rfl, hb1⟩)
      | (go_at_call 9; refine (known_any _).mono ?_; rintro _ _ ⟨rfl, g, rfl⟩))
    go_ret
    exact Ret.mk_of (g.up hb1) (by simp)
  obtain ⟨k, rfl⟩ : ∃ k : Nat, kind = k := ⟨kind.toNat, by omega⟩
  have hk : 0 < k := by omega
  have hk2 : k < 256 := by omega
  clear h1 h2
  go_enter Try.func4, Try.ntmps4
  go_wp2_with (first
    | (go_at_call 11; refine (Put_good hl hs (by omega) hk hk2).mono ?_; rintro _ w1 ⟨a1, c1, rfl, hb1, hown1⟩; have l1 := hl.keep (Nat.le_refl _) hb1; have m1 := hm.keep (Nat.le_refl _) hb1; have p1 := Sl.own hown1; have z1 := hb1.size)
    | (go_at_call 18; refine (CopyBytes_any p1 (by omega)).mono ?_; rintro _ w2 ⟨a2, c2, rfl, hb2, hown2⟩; have l2 := l1.keep (Nat.le_refl _) hb2; have m2 := m1.keep (Nat.le_refl _) hb2; have p2 := p1.keep (Nat.le_refl _) hb2; have k2 := hb1.trans (hb2.mono z1); have z2 := k2.size; have z12 := hb2.size)
    | (at_builtin; refine wp_app elemB rfl _ _ rfl (B := w1.heap.size) rfl hown2 rfl (by rw [Nat.mul_one]; exact m2.len) (fun h => ⟨by have := m2.nil h; have := m2.le; omega, m2.nil h⟩) m2.cells (bts_one more) (by omega) z12 ?_; intro a3 c3 w3 hown3 hb3; have l3 := l1.keep (Nat.le_refl _) (hb2.trans hb3); have p3 := p1.keep (Nat.le_refl _) (hb2.trans hb3); have k3 := hb1.trans ((hb2.trans hb3).mono z1); have z3 := k3.size; have q3 := Sl.own hown3; rw [← bts_append] at q3)
    | (go_at_call 17; refine (Get_good q3 hs hs' (by omega) hln (by omega) hk hk2).mono ?_; rintro _ w4 ⟨a4, c4, rfl, hb4, hown4⟩; have l4 := l3.keep (Nat.le_refl _) hb4; have p4 := p3.keep (Nat.le_refl _) hb4; have k4 := k3.trans (hb4.mono z3); have z4 := k4.size; have l4' := l4.keep (Nat.le_refl _) (below1 w4 (.cells #[.int .i64 k, .slice a4 n c4] 33)); have p4' := p4.keep (Nat.le_refl _) (below1 w4 (.cells #[.int .i64 k, .slice a4 n c4] 33)); have q4 := (Sl.own hown4).keep (Nat.le_refl _) (below1 w4 (.cells #[.int .i64 k, .slice a4 n c4] 33)); have k4' := k4.alloc z4 (.cells #[.int .i64 k, .slice a4 n c4] 33))
    | (go_at_call 13; refine (SameBytes_any q4 l4' (by omega) (by omega)).mono ?_; rintro _ _ ⟨rfl, g5, rfl⟩))
  have p5 := p4'.ext g5
  have k5 := g5.up k4'
  clear l4' p4' q4 k4'
  go_loopw [12] (fun i wr => ∃ j : Nat, j ≤ n + 7 ∧ i = .int .i64 j ∧ Sl wr a1 (n + 7) c1 (bts (fr k l)) ∧ Below w.heap.size w wr) (fun i _ => n + 7 - (intOf i).toNat)
  case atStart => exact ⟨0, by omega, rfl, p5, k5⟩
  case round =>
    obtain ⟨j, hj, rfl, p6, k6⟩ := hrel
    have hle6 := p6.le
    have z6 := k6.size
    by_cases hlt : j < n + 7
    · have hlt' : (j : Int) < n + 7 := by omega
      have hjc : (j : Int) ≤ c1 := by omega
      go_wp2_with (go_at_call 17; refine (Get_bad (p6.frontB (n' := j) (cap' := c1) (q := (fr k l).take j) (by omega) (by omega) (by omega) rfl) ((fr_small hk2 (by omega) hs).take j) (by omega) (getE_cut hk (by omega) (by omega)) (by decide)).mono ?_; rintro _ w7 ⟨a7, c7, rfl, hb7⟩; have p7 := p6.keep (Nat.le_refl _) hb7; have k7 := k6.trans (hb7.mono z6); have z7 := k7.size)
      go_roundw
      case rel => exact ⟨j + 1, by omega, rfl, p7.keep (Nat.le_refl _) (below1 _ _), k7.alloc z7 _⟩
      case measure => simp [intOf]; omega
    · have hlt' : ¬ (j : Int) < n + 7 := by omega
      go_wp2_with ((go_at_call 9; refine (known_any _).mono ?_; rintro _ _ ⟨rfl, g8, rfl⟩))
      go_ret
      exact Ret.mk (g8.up k6)
end Go.Proofs.Ytjmhnflogbihdaa

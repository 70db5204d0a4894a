/- What is proved: the walk of FramePuts of layer 4. No condition. -/
import Derived.Test.YtjmhnflogbihdaaB7
namespace Go.Proofs.Ytjmhnflogbihdaa
open Go.RowKit

set_option maxHeartbeats 2000000 in
theorem FramePuts_walk {w : World} {ao : Option Addr} {n c : Nat} {l : List Nat} (kind : Int) (hl : Sl w ao n c (bts l)) (hs : Small l) (hmax : n ≤ 9223372036854775807) : Calls Try.prog 3 #[.int .i64 kind, .slice ao n c] w (Ret (.bool true) w) := by
  have hln : l.length = n := by rw [← hl.len, bts_length]
  by_cases hbig : 4096 < n
  · have hbig' : (4096 : Int) < n := by omega
    go_enter Try.func3, Try.ntmps3
    go_wp2_with ((go_at_call 9; refine (known_any _).mono ?_; rintro _ _ ⟨rfl, g, rfl⟩))
    go_ret
    (refine Ret.mk ?_; (repeat' (first | (with_reducible exact Below.refl _ _) | (with_reducible assumption) | (with_reducible refine Ext.up _ ?_) | (with_reducible refine Below.alloc ?_ ?_ _) | (with_reducible refine Below.drew ?_) | (with_reducible refine Below.setCell ?_ ?_ _) | (with_reducible refine Below.setRow_ ?_ ?_ _) | go_size)))
  · have hbig' : ¬ (4096 : Int) < n := by omega
    have hnn : (n : Int) ≤ n := by omega
    go_enter Try.func3, Try.ntmps3
    go_wp2_with (first
      | (go_at_call 10; refine (LentBytes_any hl (by omega)).mono ?_; rintro _ w1 ⟨ai, ci, rfl, hb1, hown1⟩; have sl1 := hl.keep (Nat.le_refl _) hb1; have in1 := Sl.own hown1; have hle1 : n + 5 ≤ ci := in1.le; have hle1' : (n : Int) ≤ ci := by omega)
      | (go_at_call 11; refine (Put_any kind (in1.frontB (n' := n) (cap' := ci) (q := l) (by omega) (by omega) (by omega) (by rw [← hln]; simp)) hs (by omega)).mono ?_; rintro _ w2 ⟨a2, c2, rfl, hb2, hown2⟩; have sl2 := sl1.keep (Nat.le_refl _) hb2; have in2 := in1.keep (Nat.le_refl _) hb2; have k2 := hb1.trans (hb2.mono hb1.size); have z2 := k2.size)
      | (go_at_call 12; refine (RefPut_any kind sl2 hs (by omega)).mono ?_; rintro _ w3 ⟨a3, c3, rfl, hb3, hown3⟩; have sl3 := sl2.keep (Nat.le_refl _) hb3; have in3 := in2.keep (Nat.le_refl _) hb3; have p3 := (Sl.own hown2).keep (Nat.le_refl _) hb3; have q3 := Sl.own hown3; have k3 := k2.trans (hb3.mono z2); have z3 := k3.size)
      | (go_at_call 13; refine (SameBytes_any p3 q3 (by have := putL_length kind l; omega) (by have := putL_length kind l; omega)).mono ?_; rintro _ _ ⟨rfl, g4, rfl⟩; have sl4 := sl3.ext g4; have in4 := in3.ext g4)
      | (go_at_call 14; refine (Sum_any (in4.frontB (n' := n) (cap' := ci) (q := l) (by omega) (by omega) (by omega) (by rw [← hln]; simp)) hs (by omega)).mono ?_; rintro _ _ ⟨rfl, g5, rfl⟩; have sl5 := sl4.ext g5; have in5 := in4.ext g5)
      | (go_at_call 15; refine (RefSum_any sl5 hs (by omega)).mono ?_; rintro _ _ ⟨rfl, g6, rfl⟩; have sl6 := sl5.ext g6; have in6 := in5.ext g6)
      | (go_at_call 16; refine (KeptBytes_true in6 sl6 (by omega)).mono ?_; rintro _ _ ⟨rfl, g7, rfl⟩)
      | (go_at_call 9; refine (known_any _).mono ?_; rintro _ _ ⟨rfl, g8, rfl⟩))
    go_ret
    refine Ret.mk_of (g8.up (g7.up (g6.up (g5.up (g4.up k3))))) ?_
    simp
end Go.Proofs.Ytjmhnflogbihdaa

/- What is proved: RateFees and RateOf answer true at any input. No condition but those each law names. -/
import Derived.Test.YtiancafoipllbaaRE
namespace Go.Proofs.Ytiancafoipllbaa
open Go.RowKit Fl Ieee
attribute [-go_sem] binOp_float_cmp_eql binOp_float_cmp_neq binOp_float_cmp_lss binOp_float_cmp_leq binOp_float_cmp_gtr binOp_float_cmp_geq
attribute [local go_sem] Fl.cmp_eql Fl.cmp_neq Fl.cmp_lss Fl.cmp_leq Fl.cmp_gtr Fl.cmp_geq
set_option maxRecDepth 100000

set_option maxHeartbeats 2000000 in
theorem fees_no (r s : Nat) (v u : Int) (h : okB r = false) (w : World) : Calls Try.prog 4 #[.agg #[.float .f64 r, .float .f64 s, .int .i64 v, .int .i64 u]] w (Ret (.bool true) w) := by
  have F1 := Lib.hid (fun n w => fee_bad r n w h)
  have C1 := Lib.hid (check_no r h)
  clear h
  go_enter Try.func4, Try.ntmps4
  go_wp2
  go_quiet (fail)
  go_wp2_with (first
    | (go_at_call 14; refine (pick_any _ _ (by omega) (by omega) _).mono ?_; rintro _ _ ⟨rfl, rfl⟩)
    | (go_at_call 15; refine (F1.out _ _).mono ?_; rintro _ _ ⟨rfl, rfl⟩)
    | (go_at_call 16; refine (C1.out _).mono ?_; rintro _ _ ⟨rfl, rfl⟩)
    | (go_at_call 10; refine (known_any _).mono ?_; rintro _ W ⟨rfl, hB⟩))
  go_ret
  exact Ret.mk_of ((below_drewN ((Below.refl _ w).alloc (Nat.le_refl _) _) nq).trans (hB.mono (by simp))) rfl
set_option maxHeartbeats 4000000 in
theorem fees_yes (r s : Nat) (v u : Int) (hr : r < 2 * NEG) (hs : s < 2 * NEG) (h : okB r = true) (w : World) : Calls Try.prog 4 #[.agg #[.float .f64 r, .float .f64 s, .int .i64 v, .int .i64 u]] w (Ret (.bool true) w) := by
  have hro := okB_ok hr h
  obtain ⟨n, hn⟩ : ∃ n : Nat, v % 524288 = n := ⟨(v % 524288).toNat, by omega⟩
  obtain ⟨k, hk⟩ : ∃ k : Nat, u % 524288 = k := ⟨(u % 524288).toNat, by omega⟩
  have hn1 : n < 524288 := by omega
  have hk1 : k < 524288 := by omega
  have P1 := Lib.hid (fun w => pick_any v 524288 (by decide) (by decide) w)
  have P2 := Lib.hid (fun w => pick_any u 524288 (by decide) (by decide) w)
  rw [hn] at P1
  rw [hk] at P2
  clear hn hk
  have l1 := feeN_le hro (n := n) (by omega)
  have l2 := feeN_le hro (n := n + k) (by omega)
  have l3 : feeN r n ≤ feeN r (n + k) := feeN_mono hro hro (Nat.le_refl _) (by omega)
  have F1 := Lib.hid (fee_fin r n hro hr (by omega))
  have f2 := fee_fin r (n + k) hro hr (by omega)
  rw [Int.natCast_add] at f2
  have F2 := Lib.hid f2
  clear f2
  have hm := mul_bits (okW_num hro) (fN_lt (n := n) (by have := big_B; omega))
  rw [← fN_int] at hm
  have q1 := fee_not_below hro (n := n) (by omega)
  have q2 := fee_less hro (n := n) (by omega)
  rw [← fN_int] at q1 q2
  obtain ⟨p, hp⟩ : ∃ p, mulW r (floatOfInt .f64 n) = p := ⟨_, rfl⟩
  rw [hp] at hm q1 q2
  have h1 : ∀ w, (binOp .mul 24 (.float .f64 r) (.float .f64 (floatOfInt .f64 n))).run Try.prog w = .ok (.float .f64 p) w := fun w => run_float_arith w _ _ _ _ _ _ hm
  have C1 := Lib.hid (check_yes r h)
  obtain ⟨c, g, f3, hcg⟩ : ∃ (c : Int) (g : Int), (∀ w, Calls Try.prog 15 #[.float .f64 s, .int .i64 n] w fun x w' => x = .returned (.tuple #[.int .i64 c, .int .i64 g]) ∧ w' = w) ∧
      (g = 15 ∨ (g = 0 ∧ (ltB s r = true ∧ gtB s r = false ∧ c ≤ (feeN r n : Nat) ∨ ltB s r = false ∧ gtB s r = true ∧ ((feeN r n : Nat) : Int) ≤ c ∨ ltB s r = false ∧ gtB s r = false ∧ c = (feeN r n : Nat)))) := by
    cases hso : okB s with
    | false => exact ⟨0, 15, fun w => fee_bad s n w hso, .inl rfl⟩
    | true =>
      have hs2 := okB_ok hs hso
      refine ⟨_, _, fee_fin s n hs2 hs (by omega), .inr ⟨rfl, ?_⟩⟩
      rw [ltB_nz (nz_ok hs2) (nz_ok hro), gtB_nz (nz_ok hs2) (nz_ok hro)]
      rcases Nat.lt_trichotomy (vz s) (vz r) with e | e | e
      · refine .inl ⟨decide_eq_true e, decide_eq_false (by omega), ?_⟩
        have := feeN_mono hs2 hro (Nat.le_of_lt e) (Nat.le_refl n)
        omega
      · refine .inr (.inr ⟨decide_eq_false (by omega), decide_eq_false (by omega), ?_⟩)
        rw [feeN_vz, feeN_vz, e]
      · refine .inr (.inl ⟨decide_eq_false (by omega), decide_eq_true e, ?_⟩)
        have := feeN_mono hro hs2 (Nat.le_of_lt e) (Nat.le_refl n)
        omega
  have F3 := Lib.hid f3
  generalize feeN r n = a at *
  generalize feeN r (n + k) = b at *
  clear f3 hm hp hro hr hs h
  go_enter Try.func4, Try.ntmps4
  go_wp2
  go_quiet (fail)
  go_wp2_with fail
  refine (P1.out _).mono ?_
  rintro _ _ ⟨rfl, rfl⟩
  go_wp2_with fail
  refine (P2.out _).mono ?_
  rintro _ _ ⟨rfl, rfl⟩
  go_wp2_with fail
  refine (F1.out _).mono ?_
  rintro _ _ ⟨rfl, rfl⟩
  go_wp2_with fail
  refine (C1.out _).mono ?_
  rintro _ _ ⟨rfl, rfl⟩
  go_wp2_with fail
  refine (F2.out _).mono ?_
  rintro _ _ ⟨rfl, rfl⟩
  have d1 : decide (b < a) = false := decide_eq_false (by omega)
  go_wp2_with fail
  refine (F3.out _).mono ?_
  rintro _ _ ⟨rfl, rfl⟩
  rcases hcg with rfl | ⟨rfl, ⟨e1, e2, e3⟩ | ⟨e1, e2, e3⟩ | ⟨e1, e2, rfl⟩⟩
  · go_wp2_with (go_at_call 10; refine (known_any _).mono ?_; rintro _ W ⟨rfl, hB⟩)
    go_ret
    exact Ret.mk_of ((below_drewN ((Below.refl _ w).alloc (Nat.le_refl _) _) nq).trans (hB.mono (by simp))) rfl
  · have d2 : decide (c ≤ (a : Int)) = true := decide_eq_true e3
    go_wp2_with (go_at_call 10; refine (known_any _).mono ?_; rintro _ W ⟨rfl, hB⟩)
    go_ret
    exact Ret.mk_of ((below_drewN ((Below.refl _ w).alloc (Nat.le_refl _) _) nq).trans (hB.mono (by simp))) rfl
  · have d2 : decide ((a : Int) ≤ c) = true := decide_eq_true e3
    go_wp2_with (go_at_call 10; refine (known_any _).mono ?_; rintro _ W ⟨rfl, hB⟩)
    go_ret
    exact Ret.mk_of ((below_drewN ((Below.refl _ w).alloc (Nat.le_refl _) _) nq).trans (hB.mono (by simp))) rfl
  · go_wp2_with (go_at_call 10; refine (known_any _).mono ?_; rintro _ W ⟨rfl, hB⟩)
    go_ret
    exact Ret.mk_of ((below_drewN ((Below.refl _ w).alloc (Nat.le_refl _) _) nq).trans (hB.mono (by simp))) rfl
theorem Fees_any (r s : Nat) (v u : Int) (hr : r < 2 * NEG) (hs : s < 2 * NEG) (w : World) : Calls Try.prog 4 #[.agg #[.float .f64 r, .float .f64 s, .int .i64 v, .int .i64 u]] w (Ret (.bool true) w) := by
  cases h : okB r with
  | false => exact fees_no r s v u h w
  | true => exact fees_yes r s v u hr hs h w
set_option maxHeartbeats 4000000 in
theorem Of_any (v u : Int) (w : World) : Calls Try.prog 8 #[.int .i64 v, .int .i64 u] w (Ret (.bool true) w) := by
  obtain ⟨f, hf⟩ : ∃ f : Nat, v % 1073741824 = f := ⟨(v % 1073741824).toNat, by omega⟩
  obtain ⟨k, hk⟩ : ∃ k : Nat, u % 1048576 = k := ⟨(u % 1048576).toNat, by omega⟩
  have hf1 : f < 1073741824 := by omega
  have hk1 : k < 1048576 := by omega
  have P1 := Lib.hid (fun w => pick_any v 1073741824 (by decide) (by decide) w)
  have P2 := Lib.hid (fun w => pick_any u 1048576 (by decide) (by decide) w)
  rw [hf] at P1
  rw [hk] at P2
  clear hf hk
  have o1 := of_fin f (1 + k) (by omega) (by omega) (by omega)
  have hle : ofW f (1 + k) ≤ W6 := Nat.min_le_right ..
  have h2 : ofW f (1 + k) < 2 * NEG := by have : W6 < 2 * NEG := (by decide); omega
  have f1 := fee_fin _ (1 + k) (.inl hle) h2 (by omega)
  have hb : f ≤ 1000000 * (1 + k) → f ≤ feeN (ofW f (1 + k)) (1 + k) ∧ feeN (ofW f (1 + k)) (1 + k) ≤ f + 1 := fee_of (by omega) (by omega) (by omega)
  have hu := feeN_le (.inl hle) (n := 1 + k) (by omega)
  have C1 := Lib.hid (check_yes _ (by rw [okB_eq h2]; exact decide_eq_true (.inl hle)))
  rw [Int.natCast_add] at o1 f1
  have O1 := Lib.hid o1
  have F1 := Lib.hid f1
  generalize ofW f (1 + k) = q at *
  generalize feeN q (1 + k) = a at *
  clear o1 f1 hle h2
  by_cases hc : f ≤ 1000000 * (1 + k)
  · obtain ⟨b1, b2⟩ := hb hc
    have d1 : decide (a < f) = false := decide_eq_false (by omega)
    clear hb
    go_enter Try.func8, Try.ntmps8
    go_wp2_with fail
    refine (P1.out _).mono ?_
    rintro _ _ ⟨rfl, rfl⟩
    go_wp2_with fail
    refine (P2.out _).mono ?_
    rintro _ _ ⟨rfl, rfl⟩
    go_wp2_with fail
    refine (O1.out _).mono ?_
    rintro _ _ ⟨rfl, rfl⟩
    go_wp2_with fail
    refine (C1.out _).mono ?_
    rintro _ _ ⟨rfl, rfl⟩
    go_wp2_with fail
    refine (F1.out _).mono ?_
    rintro _ _ ⟨rfl, rfl⟩
    go_wp2_with (go_at_call 10; refine (known_any _).mono ?_; rintro _ W ⟨rfl, hB⟩)
    all_goals (first | (exfalso; omega) | (go_ret; exact Ret.mk_of hB rfl))
  · clear hb
    go_enter Try.func8, Try.ntmps8
    go_wp2_with fail
    refine (P1.out _).mono ?_
    rintro _ _ ⟨rfl, rfl⟩
    go_wp2_with fail
    refine (P2.out _).mono ?_
    rintro _ _ ⟨rfl, rfl⟩
    go_wp2_with fail
    refine (O1.out _).mono ?_
    rintro _ _ ⟨rfl, rfl⟩
    go_wp2_with fail
    refine (C1.out _).mono ?_
    rintro _ _ ⟨rfl, rfl⟩
    go_wp2_with fail
    refine (F1.out _).mono ?_
    rintro _ _ ⟨rfl, rfl⟩
    go_wp2_with (go_at_call 10; refine (known_any _).mono ?_; rintro _ W ⟨rfl, hB⟩)
    all_goals (first | (exfalso; omega) | (go_ret; exact Ret.mk_of hB rfl))
end Go.Proofs.Ytiancafoipllbaa

/- What is proved: RateGrows, RateFees and RateOf answer true at any input. No condition but those each law names. -/
import Derived.Test.YtiancafoipllbaaRD
import Derived.Test.YtiancafoipllbaaFH
namespace Go.Proofs.Ytiancafoipllbaa
open Go.RowKit Fl Ieee
attribute [-go_sem] binOp_float_cmp_eql binOp_float_cmp_neq binOp_float_cmp_lss binOp_float_cmp_leq binOp_float_cmp_gtr binOp_float_cmp_geq
attribute [local go_sem] Fl.cmp_eql Fl.cmp_neq Fl.cmp_lss Fl.cmp_leq Fl.cmp_gtr Fl.cmp_geq
set_option maxRecDepth 100000

theorem check_yes (r : Nat) (h : okB r = true) (w : World) : Calls Try.prog 16 #[.float .f64 r] w fun x w' => x = .returned (.int .i64 0) ∧ w' = w := by
  have := check_any r w
  rwa [show chk r = 0 by unfold chk; rw [if_pos h]] at this
theorem check_no (r : Nat) (h : okB r = false) (w : World) : Calls Try.prog 16 #[.float .f64 r] w fun x w' => x = .returned (.int .i64 15) ∧ w' = w := by
  have := check_any r w
  rwa [show chk r = 15 by unfold chk; rw [h]; rfl] at this
theorem minus_any (a : Nat) (h : a < INF) (w : World) : Calls Try.prog 18 #[.float .f64 a] w fun e w' => e = .returned (.bool false) ∧ w' = w := by
  have hs : a < 9223372036854775808 := by have : INF = 9218868437227405312 := rfl; omega
  cases h0 : eqB a 0 <;>
  · go_enter Try.func18, Try.ntmps18
    go_wp2_with (go_at_call 34; refine (sign_any a hs _).mono ?_; rintro _ _ ⟨rfl, rfl⟩)
    go_ret
    exact ⟨rfl, rfl⟩
theorem bump_no (r m : Nat) (w : World) (h : okB r = false ∨ okB m = false) :
    Calls Try.prog 5 #[.float .f64 r, .float .f64 m] w (Ret (.bool true) w) := by
  have B1 := Lib.hid (fun w => bump_bad r m w h)
  have z : eqB 0 0 = true := by decide +kernel
  cases h0 : okB r with
  | false =>
    have C1 := Lib.hid (check_no r h0)
    clear h h0
    go_enter Try.func5, Try.ntmps5
    go_wp2_with (first
      | (go_at_call 17; refine (B1.out _).mono ?_; rintro _ _ ⟨rfl, rfl⟩)
      | (go_at_call 16; refine (C1.out _).mono ?_; rintro _ _ ⟨rfl, rfl⟩)
      | (go_at_call 10; refine (known_any _).mono ?_; rintro _ W ⟨rfl, hB⟩))
    go_ret
    exact Ret.mk_of hB rfl
  | true =>
    have C1 := Lib.hid (check_yes r h0)
    have C2 := Lib.hid (check_no m (h.resolve_left (by rw [h0]; decide)))
    clear h h0
    go_enter Try.func5, Try.ntmps5
    go_wp2_with fail
    refine (B1.out _).mono ?_
    rintro _ _ ⟨rfl, rfl⟩
    go_wp2_with fail
    refine (C1.out _).mono ?_
    rintro _ _ ⟨rfl, rfl⟩
    go_wp2_with fail
    refine (C2.out _).mono ?_
    rintro _ _ ⟨rfl, rfl⟩
    go_wp2_with (go_at_call 10; refine (known_any _).mono ?_; rintro _ W ⟨rfl, hB⟩)
    go_ret
    exact Ret.mk_of hB rfl
set_option maxHeartbeats 2000000 in
theorem bump_yes (r m : Nat) (w : World) (hr : r < 2 * NEG) (hm : m < 2 * NEG) (h0 : okB r = true) (h1 : okB m = true) :
    Calls Try.prog 5 #[.float .f64 r, .float .f64 m] w (Ret (.bool true) w) := by
  have hro := okB_ok hr h0
  have hmo := okB_ok hm h1
  have hvm := vz_le hmo
  have B1 := Lib.hid (bump_fin r m hro hmo hr hm)
  have C1 := Lib.hid (check_yes r h0)
  have C2 := Lib.hid (check_yes m h1)
  have HM := Lib.hid hmo
  obtain ⟨X, hX⟩ : ∃ X, bumpW r m = X := ⟨_, rfl⟩
  have hXle : X ≤ W6 := by rw [← hX]; exact bumpW_le hmo
  have hXv : X ≤ vz m := by rw [← hX]; exact Nat.min_le_right ..
  have hXl : min (lowW 1) (vz m) ≤ X := by
    rw [← hX]
    have := growW_mono (Nat.zero_le (vz r)) (vz_le hro)
    show min (min (growW 0) W6) (vz m) ≤ min (growW (vz r)) (vz m)
    omega
  have hXi := Nat.lt_of_le_of_lt hXle W6_lt
  have hXn : nz X := .inl hXi
  have hXz : vz X = X := vz_fin hXle
  have g1 : gtB X m = false := by rw [gtB_nz hXn (nz_ok hmo), hXz]; exact decide_eq_false (by omega)
  have g2 : leB X r = false ∨ leB X r = true ∧ eqB X m = true := by
    rw [leB_nz hXn (nz_ok hro), eqB_nz hXn (nz_ok hmo), hXz]
    have hg := growW_gt (vz_le hro)
    by_cases hc : X ≤ vz r
    · refine .inr ⟨decide_eq_true hc, decide_eq_true ?_⟩
      rw [← hX] at hc ⊢
      show min (growW (vz r)) (vz m) = vz m
      have : min (growW (vz r)) (vz m) ≤ vz r := hc
      omega
    · exact .inl (decide_eq_false hc)
  have G : Calls Try.prog 5 #[.float .f64 r, .float .f64 m] w (Ret (.bool true) w) := by
    have B1' : Hid (∀ w, Calls Try.prog 17 #[.float .f64 r, .float .f64 m] w fun x w' => x = .returned (.tuple #[.float .f64 X, .int .i64 0]) ∧ w' = w) := by rw [← hX]; exact B1
    have HXi := Lib.hid hXi
    have HXle := Lib.hid hXle
    have HXv := Lib.hid hXv
    have HXl := Lib.hid hXl
    clear B1 hX hXi hXle hXv hXl hXn hXz hro hmo h0 h1 hvm
    go_enter Try.func5, Try.ntmps5
    go_wp2_with fail
    refine (B1'.out _).mono ?_
    rintro _ _ ⟨rfl, rfl⟩
    go_wp2_with fail
    refine (C1.out _).mono ?_
    rintro _ _ ⟨rfl, rfl⟩
    go_wp2_with fail
    refine (C2.out _).mono ?_
    rintro _ _ ⟨rfl, rfl⟩
    rcases g2 with g2 | ⟨g2, g3⟩
    all_goals
      go_wp2_with (go_at_call 18; refine (minus_any X HXi.out _).mono ?_; rintro _ _ ⟨rfl, rfl⟩)
      go_loop [5, 7] (fun v i => ∃ (k Y : Nat), k ≤ 200 ∧ i = .int .i64 k ∧ v = .float .f64 Y ∧ Hid (Y ≤ W6 ∧ Y ≤ vz m ∧ min (lowW (k + 1)) (vz m) ≤ Y)) (fun _ i => 200 - (intOf i).toNat)
      case atStart => exact ⟨0, X, Nat.zero_le _, rfl, rfl, ⟨HXle.out, HXv.out, HXl.out⟩⟩
      case round =>
        obtain ⟨k, Y, hk, rfl, rfl, HY⟩ := hrel
        by_cases hlt : k < 200
        · obtain ⟨y1, y2, y3⟩ := HY.out
          have hY2 : Y < 2 * NEG := by have : W6 < 2 * NEG := (by decide); omega
          have BB := Lib.hid (bump_fin Y m (.inl y1) HM.out hY2 hm)
          obtain ⟨Z, hZ⟩ : ∃ Z, bumpW Y m = Z := ⟨_, rfl⟩
          have z1 : Z ≤ W6 := by rw [← hZ]; exact bumpW_le HM.out
          have z2 : Z ≤ vz m := by rw [← hZ]; exact Nat.min_le_right ..
          have z3 : min (lowW (k + 1 + 1)) (vz m) ≤ Z := by rw [← hZ]; exact bump_low y1 y3 HM.out
          have z4 : ltB Z Y = false := by
            have hg := growW_gt y1
            rw [ltB_fin (Nat.lt_of_le_of_lt z1 W6_lt) (Nat.lt_of_le_of_lt y1 W6_lt), ← hZ]
            apply decide_eq_false
            show ¬ min (growW (vz Y)) (vz m) < Y
            rw [vz_fin y1]
            omega
          have CZ := Lib.hid (check_yes Z (by rw [okB_eq (by have : W6 < 2 * NEG := (by decide); omega)]; exact decide_eq_true (.inl z1)))
          rw [hZ] at BB
          have HZ := Lib.hid (And.intro z1 (And.intro z2 z3))
          clear y1 y2 y3 hY2 hZ z1 z2 z3 HY
          go_wp2_with (first
            | (go_at_call 17; refine (BB.out _).mono ?_; rintro _ _ ⟨rfl, rfl⟩)
            | (go_at_call 16; refine (CZ.out _).mono ?_; rintro _ _ ⟨rfl, rfl⟩))
          go_round
          case rel => exact ⟨k + 1, Z, by omega, by go_num, rfl, HZ.out⟩
          case measure => simp [intOf]; omega
        · obtain rfl : k = 200 := by omega
          obtain ⟨y1, y2, y3⟩ := HY.out
          have e1 : eqB Y m = true := by
            rw [eqB_nz (.inl (Nat.lt_of_le_of_lt y1 W6_lt)) (nz_ok HM.out), vz_fin y1]
            rw [low_100 (by decide)] at y3
            have := vz_le HM.out
            exact decide_eq_true (by omega)
          clear y1 y2 y3 HY
          go_wp2_with (go_at_call 10; refine (known_any _).mono ?_; rintro _ W ⟨rfl, hB⟩)
          go_ret
          exact Ret.mk_of hB rfl
  exact G
theorem Grows_any (r m : Nat) (hr : r < 2 * NEG) (hm : m < 2 * NEG) (w : World) : Calls Try.prog 5 #[.float .f64 r, .float .f64 m] w (Ret (.bool true) w) := by
  cases h0 : okB r with
  | false => exact bump_no r m w (.inl h0)
  | true =>
    cases h1 : okB m with
    | false => exact bump_no r m w (.inr h1)
    | true => exact bump_yes r m w hr hm h0 h1
end Go.Proofs.Ytiancafoipllbaa

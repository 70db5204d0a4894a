/- What is proved: contracts of the rate package's Bump and of the document's; of the law's small helpers: minus, same, Pick, NaN, Inf. No condition but those each law names. -/
import Derived.Test.YtiancafoipllbaaR9
import Derived.IntWalk
namespace Go.Proofs.Ytiancafoipllbaa
open Go.RowKit Fl Ieee
attribute [-go_sem] binOp_float_cmp_eql binOp_float_cmp_neq binOp_float_cmp_lss binOp_float_cmp_leq binOp_float_cmp_gtr binOp_float_cmp_geq
attribute [local go_sem] Fl.cmp_eql Fl.cmp_neq Fl.cmp_lss Fl.cmp_leq Fl.cmp_gtr Fl.cmp_geq
set_option maxRecDepth 100000

theorem bump_ok (r m a b c : Nat) (w : World) (h0 : okB r = true) (h1 : okB m = true) (hm : floatBits .mul .f64 r 4608308318706860032 = some a) (hp : floatBits .add .f64 a 4562254508917369340 = some b) (hc : minO b m = some c) :
    Calls Try.prog 17 #[.float .f64 r, .float .f64 m] w fun e w' => e = .returned (.tuple #[.float .f64 (plainW c), .int .i64 0]) ∧ w' = w := by
  have h2 : ∀ w, (binOp .mul 24 (.float .f64 r) (.float .f64 4608308318706860032)).run Try.prog w = .ok (.float .f64 a) w := fun w => run_float_arith w _ _ _ _ _ _ hm
  have h3 : ∀ w, (binOp .add 24 (.float .f64 a) (.float .f64 4562254508917369340)).run Try.prog w = .ok (.float .f64 b) w := fun w => run_float_arith w _ _ _ _ _ _ hp
  have h4 : ∀ ts t w, (Builtin.min_ ts t #[.float .f64 b, .float .f64 m]).run Try.prog w = .ok (.float .f64 c) w := fun ts t w => run_min_flt ts t b m c hc w
  have k0 : chk r = 0 := by unfold chk; rw [if_pos h0]
  have k1 : chk m = 0 := by unfold chk; rw [if_pos h1]
  clear hm hp hc h0 h1
  go_enter Try.func17, Try.ntmps17
  go_wp2_with fail
  refine (check_any _ _).mono ?_
  rintro _ _ ⟨rfl, rfl⟩
  rw [k0]
  go_wp2_with fail
  refine (check_any _ _).mono ?_
  rintro _ _ ⟨rfl, rfl⟩
  rw [k1]
  go_wp2_with (go_at_call 33; refine (plain_any _ _).mono ?_; rintro _ _ ⟨rfl, rfl⟩)
  go_ret2
  exact ⟨rfl, rfl⟩
theorem bump_bad (r m : Nat) (w : World) (h : okB r = false ∨ okB m = false) :
    Calls Try.prog 17 #[.float .f64 r, .float .f64 m] w fun e w' => e = .returned (.tuple #[.float .f64 0, .int .i64 15]) ∧ w' = w := by
  cases h0 : okB r with
  | false =>
    have k0 : chk r = 15 := by unfold chk; rw [h0]; rfl
    clear h h0
    go_enter Try.func17, Try.ntmps17
    go_wp2_with fail
    refine (check_any _ _).mono ?_
    rintro _ _ ⟨rfl, rfl⟩
    rw [k0]
    go_wp2
    go_ret2
    exact ⟨rfl, rfl⟩
  | true =>
    have h1 : okB m = false := h.resolve_left (by rw [h0]; decide)
    have k0 : chk r = 0 := by unfold chk; rw [if_pos h0]
    have k1 : chk m = 15 := by unfold chk; rw [h1]; rfl
    clear h h0 h1
    go_enter Try.func17, Try.ntmps17
    go_wp2_with fail
    refine (check_any _ _).mono ?_
    rintro _ _ ⟨rfl, rfl⟩
    rw [k0]
    go_wp2_with fail
    refine (check_any _ _).mono ?_
    rintro _ _ ⟨rfl, rfl⟩
    rw [k1]
    go_wp2
    go_ret2
    exact ⟨rfl, rfl⟩
theorem refbump_ok (r m a b : Nat) (w : World) (h0 : rightB r = true) (h1 : rightB m = true) (hm : floatBits .mul .f64 r 4608308318706860032 = some a) (hp : floatBits .add .f64 a 4562254508917369340 = some b) :
    Calls Try.prog 22 #[.float .f64 r, .float .f64 m] w fun e w' => e = .returned (.tuple #[.float .f64 (plainW (if gtB b m then m else b)), .int .i64 0]) ∧ w' = w := by
  have h2 : ∀ w, (binOp .mul 24 (.float .f64 r) (.float .f64 4608308318706860032)).run Try.prog w = .ok (.float .f64 a) w := fun w => run_float_arith w _ _ _ _ _ _ hm
  have h3 : ∀ w, (binOp .add 24 (.float .f64 a) (.float .f64 4562254508917369340)).run Try.prog w = .ok (.float .f64 b) w := fun w => run_float_arith w _ _ _ _ _ _ hp
  clear hm hp
  cases h4 : gtB b m
  · cases h5 : eqB b 0
    · have e : plainW (if false = true then m else b) = b := by unfold plainW; simp [h5]
      rw [e]
      go_enter Try.func22, Try.ntmps22
      go_wp2_with fail
      refine (right_B _ _).mono ?_
      rintro _ _ ⟨rfl, rfl⟩
      rw [h0]
      go_wp2_with fail
      refine (right_B _ _).mono ?_
      rintro _ _ ⟨rfl, rfl⟩
      rw [h1]
      go_wp2
      go_ret2
      exact ⟨rfl, rfl⟩
    · have e : plainW (if false = true then m else b) = 0 := by unfold plainW; simp [h5]
      rw [e]
      go_enter Try.func22, Try.ntmps22
      go_wp2_with fail
      refine (right_B _ _).mono ?_
      rintro _ _ ⟨rfl, rfl⟩
      rw [h0]
      go_wp2_with fail
      refine (right_B _ _).mono ?_
      rintro _ _ ⟨rfl, rfl⟩
      rw [h1]
      go_wp2
      go_ret2
      exact ⟨rfl, rfl⟩
  · cases h5 : eqB m 0
    · have e : plainW (if true = true then m else b) = m := by unfold plainW; simp [h5]
      rw [e]
      go_enter Try.func22, Try.ntmps22
      go_wp2_with fail
      refine (right_B _ _).mono ?_
      rintro _ _ ⟨rfl, rfl⟩
      rw [h0]
      go_wp2_with fail
      refine (right_B _ _).mono ?_
      rintro _ _ ⟨rfl, rfl⟩
      rw [h1]
      go_wp2
      go_ret2
      exact ⟨rfl, rfl⟩
    · have e : plainW (if true = true then m else b) = 0 := by unfold plainW; simp [h5]
      rw [e]
      go_enter Try.func22, Try.ntmps22
      go_wp2_with fail
      refine (right_B _ _).mono ?_
      rintro _ _ ⟨rfl, rfl⟩
      rw [h0]
      go_wp2_with fail
      refine (right_B _ _).mono ?_
      rintro _ _ ⟨rfl, rfl⟩
      rw [h1]
      go_wp2
      go_ret2
      exact ⟨rfl, rfl⟩
theorem refbump_bad (r m : Nat) (w : World) (h : rightB r = false ∨ rightB m = false) :
    Calls Try.prog 22 #[.float .f64 r, .float .f64 m] w fun e w' => e = .returned (.tuple #[.float .f64 0, .int .i64 15]) ∧ w' = w := by
  cases h0 : rightB r with
  | false =>
    go_enter Try.func22, Try.ntmps22
    go_wp2_with fail
    refine (right_B _ _).mono ?_
    rintro _ _ ⟨rfl, rfl⟩
    rw [h0]
    go_wp2
    go_ret2
    exact ⟨rfl, rfl⟩
  | true =>
    have h1 : rightB m = false := h.resolve_left (by rw [h0]; decide)
    clear h
    go_enter Try.func22, Try.ntmps22
    go_wp2_with fail
    refine (right_B _ _).mono ?_
    rintro _ _ ⟨rfl, rfl⟩
    rw [h0]
    go_wp2_with fail
    refine (right_B _ _).mono ?_
    rintro _ _ ⟨rfl, rfl⟩
    rw [h1]
    go_wp2
    go_ret2
    exact ⟨rfl, rfl⟩
theorem sign_any (a : Nat) (h : a < 9223372036854775808) (w : World) : Calls Try.prog 34 #[.float .f64 a] w fun e w' => e = .returned (.bool false) ∧ w' = w := by
  have hx := ext_bits a
  go_enter Try.func34, Try.ntmps34
  go_wp2
  have h0 : decide ((a : Int) < 0) = false := decide_eq_false (by omega)
  go_ret
  exact ⟨congrArg (fun z => Ending.returned (.bool z)) h0, rfl⟩
theorem tmod_neg {v n : Int} (hn : 1 ≤ n) (h : v.tmod n < 0) : v.tmod n + n = v % n := by
  have hv : v < 0 := by
    apply Int.not_le.1
    intro h0
    have := Int.tmod_nonneg n h0
    omega
  have e1 : v.tmod n = -((-v) % n) := by
    have : (-v).tmod n = (-v) % n := Int.tmod_eq_emod_of_nonneg (by omega)
    rw [← this, Int.neg_tmod, Int.neg_neg]
  rw [e1] at h ⊢
  have h1 := Int.emod_nonneg (-v) (show n ≠ 0 by omega)
  have h2 := Int.emod_lt_of_pos (-v) (show 0 < n by omega)
  have h3 := Int.emod_nonneg v (show n ≠ 0 by omega)
  have h4 := Int.emod_lt_of_pos v (show 0 < n by omega)
  have d1 := Int.mul_ediv_add_emod v n
  have d2 := Int.mul_ediv_add_emod (-v) n
  have e : n * (v / n + (-v) / n) = -(v % n + (-v) % n) := by rw [Int.mul_add]; omega
  have hk : v / n + (-v) / n = -1 := by
    generalize v / n + (-v) / n = k at e
    have a : -2 < k := by
      apply Int.not_le.1
      intro hk
      have : n * k ≤ n * (-2) := Int.mul_le_mul_of_nonneg_left hk (by omega)
      omega
    have b : k < 0 := by
      apply Int.not_le.1
      intro hk
      have : 0 ≤ n * k := Int.mul_nonneg (by omega) hk
      omega
    omega
  rw [hk] at e
  omega
theorem tmod_pos {v n : Int} (hn : 1 ≤ n) (h : 0 ≤ v.tmod n) : v.tmod n = v % n := by
  by_cases hv : 0 ≤ v
  · exact Int.tmod_eq_emod_of_nonneg hv
  · have e1 : v.tmod n = -((-v) % n) := by
      have : (-v).tmod n = (-v) % n := Int.tmod_eq_emod_of_nonneg (by omega)
      rw [← this, Int.neg_tmod, Int.neg_neg]
    have h1 := Int.emod_nonneg (-v) (show n ≠ 0 by omega)
    have h2 : (-v) % n = 0 := by omega
    have h3 : v % n = 0 := Int.emod_eq_zero_of_dvd (Int.dvd_neg.1 (Int.dvd_of_emod_eq_zero h2))
    omega
theorem pick_any (v n : Int) (hn : 1 ≤ n) (hn2 : n ≤ 4611686018427387904) (w : World) : Calls Try.prog 14 #[.int .i64 v, .int .i64 n] w fun e w' => e = .returned (.int .i64 (v % n)) ∧ w' = w := by
  go_enter Try.func14, Try.ntmps14
  go_wp2
  · have h1 : v.tmod n < 0 := by assumption
    have h3 := Int.emod_nonneg v (show n ≠ 0 by omega)
    have h4 := Int.emod_lt_of_pos v (show 0 < n by omega)
    have h5 := tmod_neg hn h1
    have h4 : wrap64 (v.tmod n + n) = v % n := by rw [h5, IntWalk.wrap64_in _ (by omega)]
    clear h5
    go_ret
    exact ⟨congrArg (fun z => Ending.returned (.int .i64 z)) h4, rfl⟩
  · have h1 : 0 ≤ v.tmod n := by assumption
    have h4 := tmod_pos hn h1
    go_ret
    exact ⟨congrArg (fun z => Ending.returned (.int .i64 z)) h4, rfl⟩
theorem same_self (a : Nat) (w : World) : Calls Try.prog 13 #[.float .f64 a, .float .f64 a] w fun e w' => e = .returned (.bool true) ∧ w' = w := by
  have hx := ext_bits a
  cases h : eqB a a <;> (go_enter Try.func13, Try.ntmps13; go_wp2; go_ret; exact ⟨rfl, rfl⟩)
theorem nan_ext (w : World) : Calls Try.prog 25 #[] w fun e w' => e = .returned (.float .f64 9221120237041090561) ∧ w' = w := by
  have hx := ext_from 9221120237041090561
  go_enter Try.func25, Try.ntmps25
  go_wp2
  go_ret
  exact ⟨rfl, rfl⟩
theorem inf_ext (w : World) : Calls Try.prog 26 #[.int .i64 1] w fun e w' => e = .returned (.float .f64 9218868437227405312) ∧ w' = w := by
  have hx := ext_from 9218868437227405312
  go_enter Try.func26, Try.ntmps26
  go_wp2
  go_ret
  exact ⟨rfl, rfl⟩
end Go.Proofs.Ytiancafoipllbaa

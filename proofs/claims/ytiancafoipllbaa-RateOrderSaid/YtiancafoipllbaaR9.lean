/- What is proved: contracts of the rate package's Fee, Of and Bump, and of the document's; of the law's small helpers. No condition but those each law names. -/
import Derived.Test.YtiancafoipllbaaR8
namespace Go.Proofs.Ytiancafoipllbaa
open Go.RowKit Fl Ieee
attribute [-go_sem] binOp_float_cmp_eql binOp_float_cmp_neq binOp_float_cmp_lss binOp_float_cmp_leq binOp_float_cmp_gtr binOp_float_cmp_geq
attribute [local go_sem] Fl.cmp_eql Fl.cmp_neq Fl.cmp_lss Fl.cmp_leq Fl.cmp_gtr Fl.cmp_geq
set_option maxRecDepth 100000

def ceilW (p : Nat) : Nat := double.write ((double.read p).integral .up)
def floorW (p : Nat) : Nat := double.write ((double.read p).integral .down)
theorem ceil_any (p : Nat) (h : isNum p = true) (w : World) : Calls Try.prog 32 #[.float .f64 p] w fun e w' => e = .returned (.float .f64 (ceilW p)) ∧ w' = w := by
  have hx : ∀ w, (callFunc 42 #[.float .f64 p]).run Try.prog w = .ok (.value (.float .f64 (ceilW p))) w := fun w => ext_ceil h w
  go_enter Try.func32, Try.ntmps32
  go_wp2
  go_ret
  exact ⟨rfl, rfl⟩
theorem floor_any (p : Nat) (h : isNum p = true) (w : World) : Calls Try.prog 35 #[.float .f64 p] w fun e w' => e = .returned (.float .f64 (floorW p)) ∧ w' = w := by
  have hx : ∀ w, (callFunc 44 #[.float .f64 p]).run Try.prog w = .ok (.value (.float .f64 (floorW p))) w := fun w => ext_floor h w
  go_enter Try.func35, Try.ntmps35
  go_wp2
  go_ret
  exact ⟨rfl, rfl⟩
theorem fee_ok (r p q : Nat) (n c : Int) (w : World) (h0 : okB r = true) (hn0 : 0 ≤ n) (hn1 : n ≤ 1048576) (hm : floatBits .mul .f64 r (floatOfInt .f64 n) = some p) (hp : isNum p = true) (hq : ceilW p = q) (hc : floatToIntVal .f64 q .i64 = some c) :
    Calls Try.prog 15 #[.float .f64 r, .int .i64 n] w fun e w' => e = .returned (.tuple #[.int .i64 c, .int .i64 0]) ∧ w' = w := by
  have h1 : ∀ w, (binOp .mul 24 (.float .f64 r) (.float .f64 (floatOfInt .f64 n))).run Try.prog w = .ok (.float .f64 p) w := fun w => run_float_arith w _ _ _ _ _ _ hm
  have h2 : ∀ w, (convert 24 3 (.float .f64 q)).run Try.prog w = .ok (.int .i64 c) w := fun w => run_convert_float_int w 24 3 .f64 .i64 q c (by rw [Try.underlying24]; rfl) Try.underlying3 hc
  have hk : chk r = 0 := by unfold chk; rw [if_pos h0]
  have HQ : Hid (ceilW p = q) := hq
  clear hq hm hc h0
  go_enter Try.func15, Try.ntmps15
  go_wp2_with (first
    | (go_at_call 16; refine (check_any _ _).mono ?_; rintro _ _ ⟨rfl, rfl⟩; rw [hk])
    | (go_at_call 32; refine (ceil_any p hp _).mono ?_; rintro _ _ ⟨rfl, rfl⟩; rw [HQ.out]))
  go_ret2
  exact ⟨rfl, rfl⟩
theorem fee_bad (r : Nat) (n : Int) (w : World) (h0 : okB r = false) :
    Calls Try.prog 15 #[.float .f64 r, .int .i64 n] w fun e w' => e = .returned (.tuple #[.int .i64 0, .int .i64 15]) ∧ w' = w := by
  have hk : chk r = 15 := by unfold chk; rw [h0]; rfl
  clear h0
  go_enter Try.func15, Try.ntmps15
  go_wp2_with (go_at_call 16; refine (check_any _ _).mono ?_; rintro _ _ ⟨rfl, rfl⟩; rw [hk])
  go_ret2
  exact ⟨rfl, rfl⟩
theorem fee_arg (r : Nat) (n : Int) (w : World) (h0 : okB r = true) (hn : n < 0 ∨ 1048576 < n) :
    Calls Try.prog 15 #[.float .f64 r, .int .i64 n] w fun e w' => e = .returned (.tuple #[.int .i64 0, .int .i64 1]) ∧ w' = w := by
  have hk : chk r = 0 := by unfold chk; rw [if_pos h0]
  clear h0
  rcases hn with hn | hn
  · go_enter Try.func15, Try.ntmps15
    go_wp2_with (go_at_call 16; refine (check_any _ _).mono ?_; rintro _ _ ⟨rfl, rfl⟩; rw [hk])
    go_ret2
    exact ⟨rfl, rfl⟩
  · have hn' : ¬ n < 0 := by omega
    go_enter Try.func15, Try.ntmps15
    go_wp2_with (go_at_call 16; refine (check_any _ _).mono ?_; rintro _ _ ⟨rfl, rfl⟩; rw [hk])
    go_ret2
    exact ⟨rfl, rfl⟩
/-- The document's own test. -/
def rightB (r : Nat) : Bool := eqB r r && (!ltB r 0 && !gtB r 4696837146684686336)
theorem right_B (r : Nat) (w : World) : Calls Try.prog 30 #[.float .f64 r] w fun e w' => e = .returned (.bool (rightB r)) ∧ w' = w := right_any r w
theorem refcheck_any (r : Nat) (w : World) : Calls Try.prog 23 #[.float .f64 r] w fun e w' => e = .returned (.int .i64 (if rightB r then 0 else 15)) ∧ w' = w := by
  go_enter Try.func23, Try.ntmps23
  go_wp2_with (go_at_call 30; refine (right_B _ _).mono ?_; rintro _ _ ⟨rfl, rfl⟩)
  all_goals go_ret
  all_goals exact ⟨by simp [*], rfl⟩
theorem reffee_ok (r p q : Nat) (n c : Int) (w : World) (h0 : rightB r = true) (hn0 : 0 ≤ n) (hn1 : n ≤ 1048576) (hm : floatBits .mul .f64 r (floatOfInt .f64 n) = some p) (hp : isNum p = true) (hq : floorW p = q) (hc : floatToIntVal .f64 q .i64 = some c) (hc0 : 0 ≤ c) (hc1 : c ≤ 1000000000000000) :
    Calls Try.prog 19 #[.float .f64 r, .int .i64 n] w fun e w' => e = .returned (.tuple #[.int .i64 (if ltB (floatOfInt .f64 c) p then c + 1 else c), .int .i64 0]) ∧ w' = w := by
  have h1 : ∀ w, (binOp .mul 24 (.float .f64 r) (.float .f64 (floatOfInt .f64 n))).run Try.prog w = .ok (.float .f64 p) w := fun w => run_float_arith w _ _ _ _ _ _ hm
  have h2 : ∀ w, (convert 24 3 (.float .f64 q)).run Try.prog w = .ok (.int .i64 c) w := fun w => run_convert_float_int w 24 3 .f64 .i64 q c (by rw [Try.underlying24]; rfl) Try.underlying3 hc
  have HQ : Hid (floorW p = q) := hq
  clear hq hm hc
  cases h3 : ltB (floatOfInt .f64 c) p
  · go_enter Try.func19, Try.ntmps19
    go_wp2_with (first
      | (go_at_call 30; refine (right_B _ _).mono ?_; rintro _ _ ⟨rfl, rfl⟩; rw [h0])
      | (go_at_call 35; refine (floor_any p hp _).mono ?_; rintro _ _ ⟨rfl, rfl⟩; rw [HQ.out]))
    go_ret2
    exact ⟨rfl, rfl⟩
  · go_enter Try.func19, Try.ntmps19
    go_wp2_with (first
      | (go_at_call 30; refine (right_B _ _).mono ?_; rintro _ _ ⟨rfl, rfl⟩; rw [h0])
      | (go_at_call 35; refine (floor_any p hp _).mono ?_; rintro _ _ ⟨rfl, rfl⟩; rw [HQ.out]))
    go_ret2
    exact ⟨rfl, rfl⟩
theorem reffee_bad (r : Nat) (n : Int) (w : World) (h0 : rightB r = false) :
    Calls Try.prog 19 #[.float .f64 r, .int .i64 n] w fun e w' => e = .returned (.tuple #[.int .i64 0, .int .i64 15]) ∧ w' = w := by
  go_enter Try.func19, Try.ntmps19
  go_wp2_with (go_at_call 30; refine (right_B _ _).mono ?_; rintro _ _ ⟨rfl, rfl⟩; rw [h0])
  go_ret2
  exact ⟨rfl, rfl⟩
theorem reffee_arg (r : Nat) (n : Int) (w : World) (h0 : rightB r = true) (hn : n < 0 ∨ 1048576 < n) :
    Calls Try.prog 19 #[.float .f64 r, .int .i64 n] w fun e w' => e = .returned (.tuple #[.int .i64 0, .int .i64 1]) ∧ w' = w := by
  rcases hn with hn | hn
  · go_enter Try.func19, Try.ntmps19
    go_wp2_with (go_at_call 30; refine (right_B _ _).mono ?_; rintro _ _ ⟨rfl, rfl⟩; rw [h0])
    go_ret2
    exact ⟨rfl, rfl⟩
  · have hn' : ¬ n < 0 := by omega
    go_enter Try.func19, Try.ntmps19
    go_wp2_with (go_at_call 30; refine (right_B _ _).mono ?_; rintro _ _ ⟨rfl, rfl⟩; rw [h0])
    go_ret2
    exact ⟨rfl, rfl⟩
/-- The lesser of two floats that are numbers. -/
def minO (a b : Nat) : Option Nat := match double.order a b with | none => none | some .lt => some a | some .gt => some b | some .eq => some (if (double.read a).neg then a else b)
theorem run_min_flt {P : Program} (ts : Array TypeId) (t : TypeId) (a b c : Nat) (h : minO a b = some c) (w : World) : (Builtin.min_ ts t #[.float .f64 a, .float .f64 b]).run P w = .ok (.float .f64 c) w := by
  unfold minO at h
  have e : (Builtin.min_ ts t #[.float .f64 a, .float .f64 b]) = Builtin.min2 (.float .f64 a) (.float .f64 b) >>= pure := rfl
  rw [e, Sem.run_bind]
  have e2 : (Builtin.min2 (.float .f64 a) (.float .f64 b)).run P w = .ok (.float .f64 c) w := by
    unfold Builtin.min2
    show Sem.run P (match double.order a b with | none => _ | some .lt => _ | some .gt => _ | some .eq => _) w = _
    split at h <;> rename_i hd
    · cases h
    · cases h; rfl
    · cases h; rfl
    · cases h; rfl
  rw [e2]
  rfl
theorem amount_any (n : Int) (w : World) : Calls Try.prog 36 #[.int .i64 n] w fun e w' => e = .returned (.int .i64 (if n < 0 ∨ 1125899906842624 < n then 15 else 0)) ∧ w' = w := by
  by_cases h1 : n < 0
  · rw [if_pos (.inl h1)]
    go_enter Try.func36, Try.ntmps36
    go_wp2
    all_goals go_ret
    all_goals exact ⟨rfl, rfl⟩
  · by_cases h2 : 1125899906842624 < n
    · rw [if_pos (.inr h2)]
      go_enter Try.func36, Try.ntmps36
      go_wp2
      all_goals go_ret
      all_goals exact ⟨rfl, rfl⟩
    · rw [if_neg (by omega)]
      go_enter Try.func36, Try.ntmps36
      go_wp2
      all_goals go_ret
      all_goals exact ⟨rfl, rfl⟩
theorem of_ok (f n : Int) (q c : Nat) (w : World) (hf0 : 0 ≤ f) (hf1 : f ≤ 1125899906842624) (hn0 : 1 ≤ n) (hn1 : n ≤ 1048576) (hm : floatBits .quo .f64 (floatOfInt .f64 f) (floatOfInt .f64 n) = some q) (hc : minO q 4696837146684686336 = some c) :
    Calls Try.prog 20 #[.int .i64 f, .int .i64 n] w fun e w' => e = .returned (.tuple #[.float .f64 c, .int .i64 0]) ∧ w' = w := by
  have h1 : ∀ w, (binOp .quo 24 (.float .f64 (floatOfInt .f64 f)) (.float .f64 (floatOfInt .f64 n))).run Try.prog w = .ok (.float .f64 q) w := fun w => run_float_arith w _ _ _ _ _ _ hm
  have h2 : ∀ ts t w, (Builtin.min_ ts t #[.float .f64 q, .float .f64 4696837146684686336]).run Try.prog w = .ok (.float .f64 c) w := fun ts t w => run_min_flt ts t q _ c hc w
  have hk : (if f < 0 ∨ 1125899906842624 < f then (15 : Int) else 0) = 0 := if_neg (by omega)
  clear hm hc
  go_enter Try.func20, Try.ntmps20
  go_wp2_with (go_at_call 36; refine (amount_any _ _).mono ?_; rintro _ _ ⟨rfl, rfl⟩; rw [hk])
  go_ret2
  exact ⟨rfl, rfl⟩
theorem of_bad (f n : Int) (w : World) (hf : f < 0 ∨ 1125899906842624 < f) :
    Calls Try.prog 20 #[.int .i64 f, .int .i64 n] w fun e w' => e = .returned (.tuple #[.float .f64 0, .int .i64 15]) ∧ w' = w := by
  have hk : (if f < 0 ∨ 1125899906842624 < f then (15 : Int) else 0) = 15 := if_pos hf
  clear hf
  go_enter Try.func20, Try.ntmps20
  go_wp2_with (go_at_call 36; refine (amount_any _ _).mono ?_; rintro _ _ ⟨rfl, rfl⟩; rw [hk])
  go_ret2
  exact ⟨rfl, rfl⟩
theorem of_arg (f n : Int) (w : World) (hf0 : 0 ≤ f) (hf1 : f ≤ 1125899906842624) (hn : n < 1 ∨ 1048576 < n) :
    Calls Try.prog 20 #[.int .i64 f, .int .i64 n] w fun e w' => e = .returned (.tuple #[.float .f64 0, .int .i64 1]) ∧ w' = w := by
  have hk : (if f < 0 ∨ 1125899906842624 < f then (15 : Int) else 0) = 0 := if_neg (by omega)
  rcases hn with hn | hn
  · go_enter Try.func20, Try.ntmps20
    go_wp2_with (go_at_call 36; refine (amount_any _ _).mono ?_; rintro _ _ ⟨rfl, rfl⟩; rw [hk])
    go_ret2
    exact ⟨rfl, rfl⟩
  · have hn' : ¬ n < 1 := by omega
    go_enter Try.func20, Try.ntmps20
    go_wp2_with (go_at_call 36; refine (amount_any _ _).mono ?_; rintro _ _ ⟨rfl, rfl⟩; rw [hk])
    go_ret2
    exact ⟨rfl, rfl⟩
theorem refof_ok (f n : Int) (q : Nat) (w : World) (hf0 : 0 ≤ f) (hf1 : f ≤ 1125899906842624) (hn0 : 1 ≤ n) (hn1 : n ≤ 1048576) (hm : floatBits .quo .f64 (floatOfInt .f64 f) (floatOfInt .f64 n) = some q) :
    Calls Try.prog 21 #[.int .i64 f, .int .i64 n] w fun e w' => e = .returned (.tuple #[.float .f64 (if gtB q 4696837146684686336 then 4696837146684686336 else q), .int .i64 0]) ∧ w' = w := by
  have h1 : ∀ w, (binOp .quo 24 (.float .f64 (floatOfInt .f64 f)) (.float .f64 (floatOfInt .f64 n))).run Try.prog w = .ok (.float .f64 q) w := fun w => run_float_arith w _ _ _ _ _ _ hm
  clear hm
  cases h3 : gtB q 4696837146684686336 <;> (go_enter Try.func21, Try.ntmps21; go_wp2; go_ret2; exact ⟨rfl, rfl⟩)
theorem refof_bad (f n : Int) (w : World) (hf : f < 0 ∨ 1125899906842624 < f) :
    Calls Try.prog 21 #[.int .i64 f, .int .i64 n] w fun e w' => e = .returned (.tuple #[.float .f64 0, .int .i64 15]) ∧ w' = w := by
  rcases hf with hf | hf
  · go_enter Try.func21, Try.ntmps21
    go_wp2
    go_ret2
    exact ⟨rfl, rfl⟩
  · have hf' : ¬ f < 0 := by omega
    go_enter Try.func21, Try.ntmps21
    go_wp2
    go_ret2
    exact ⟨rfl, rfl⟩
theorem refof_arg (f n : Int) (w : World) (hf0 : 0 ≤ f) (hf1 : f ≤ 1125899906842624) (hn : n < 1 ∨ 1048576 < n) :
    Calls Try.prog 21 #[.int .i64 f, .int .i64 n] w fun e w' => e = .returned (.tuple #[.float .f64 0, .int .i64 1]) ∧ w' = w := by
  rcases hn with hn | hn
  · go_enter Try.func21, Try.ntmps21
    go_wp2
    go_ret2
    exact ⟨rfl, rfl⟩
  · have hn' : ¬ n < 1 := by omega
    go_enter Try.func21, Try.ntmps21
    go_wp2
    go_ret2
    exact ⟨rfl, rfl⟩
end Go.Proofs.Ytiancafoipllbaa

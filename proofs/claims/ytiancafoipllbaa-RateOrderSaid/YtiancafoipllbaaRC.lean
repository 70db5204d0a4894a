/- What is proved: the rate package's functions and the document's answer alike. No condition but those each law names. -/
import Derived.Test.YtiancafoipllbaaRB
import Derived.Test.YtiancafoipllbaaFG
namespace Go.Proofs.Ytiancafoipllbaa
open Go.RowKit Fl Ieee
attribute [-go_sem] binOp_float_cmp_eql binOp_float_cmp_neq binOp_float_cmp_lss binOp_float_cmp_leq binOp_float_cmp_gtr binOp_float_cmp_geq
attribute [local go_sem] Fl.cmp_eql Fl.cmp_neq Fl.cmp_lss Fl.cmp_leq Fl.cmp_gtr Fl.cmp_geq
set_option maxRecDepth 100000

theorem read_hi {r : Nat} (h1 : NEG < r) (h2 : r < 2 * NEG) : (∃ m p, 0 < m ∧ double.read r = .number true m p) ∨ double.read r = .infinity true ∨ ∃ t, double.read r = .nan true t := by
  have e1 : r % NEG = r - NEG := by rw [Nat.mod_eq_sub_mod (by omega), Nat.mod_eq_of_lt (by omega)]
  have e2 : r / NEG = 1 := Nat.div_eq_of_lt_le (by omega) (by omega)
  have hB := Bpos
  rw [read_eq, e1, e2]
  split
  · exact .inl ⟨_, _, by omega, rfl⟩
  split
  · exact .inl ⟨_, _, by omega, rfl⟩
  split
  · exact .inr (.inl rfl)
  · exact .inr (.inr ⟨_, rfl⟩)
theorem read_mid {r : Nat} (h1 : INF ≤ r) (h2 : r < NEG) : double.read r = .infinity false ∨ ∃ t, double.read r = .nan false t := by
  have e1 : r % NEG = r := Nat.mod_eq_of_lt h2
  have e2 : r / NEG = 0 := Nat.div_eq_of_lt h2
  rw [read_eq, e1, e2, if_neg (by have : B < INF := (by decide); omega), if_neg (by omega)]
  split
  · exact .inl rfl
  · exact .inr ⟨_, rfl⟩
theorem lt_zero {m : Nat} {p : Int} (hm : 0 < m) : (Datum.number true m p).order (.number false 0 (-1074)) = some .lt := by
  show some (compare (signed true m (p - min p (-1074)).toNat) (signed false 0 ((-1074 : Int) - min p (-1074)).toNat)) = _
  have h1 : signed true m (p - min p (-1074)).toNat = -(m <<< (p - min p (-1074)).toNat : Nat) := rfl
  have h2 : signed false 0 ((-1074 : Int) - min p (-1074)).toNat = 0 := by unfold signed; simp
  rw [h1, h2, Nat.shiftLeft_eq]
  have : 0 < m * 2 ^ (p - min p (-1074)).toNat := Nat.mul_pos hm (pow_pos' _)
  congr 1
  simp only [compare, compareOfLessAndEq]
  rw [if_pos (by omega)]
/-- The document's test is the program's. -/
theorem rightB_eq {r : Nat} (h : r < 2 * NEG) : rightB r = okB r := by
  rw [okB_eq h]
  have hW := W6_lt
  have hI := NEG_ge
  show (eqB r r && (!ltB r 0 && !gtB r W6)) = _
  by_cases h1 : r < INF
  · rw [eqB_fin h1 h1, ltB_fin h1 (by decide), gtB_fin h1 hW, decide_eq_true rfl, decide_eq_false (Nat.not_lt_zero r), Bool.true_and, Bool.not_false, Bool.true_and, ← decide_not]
    exact decide_eq_decide.2 ⟨fun h => .inl (by omega), fun h => by have := h.resolve_right (by omega); omega⟩
  have hn : okW r → r = NEG := fun h => h.resolve_left (by omega)
  by_cases h2 : r = NEG
  · subst h2
    decide +kernel
  rw [decide_eq_false (fun h => h2 (hn h))]
  by_cases h3 : r < NEG
  · rcases read_mid (by omega) h3 with e | ⟨t, e⟩
    · obtain ⟨m, p, hm⟩ := read_W6
      have : gtB r W6 = true := by unfold gtB Format.order; rw [e, hm]; rfl
      rw [this, Bool.not_true, Bool.and_false, Bool.and_false]
    · have : eqB r r = false := by unfold eqB Format.order; rw [e]; rfl
      rw [this, Bool.false_and]
  · rcases read_hi (by omega) h with ⟨m, p, hm, e⟩ | e | ⟨t, e⟩
    · have : ltB r 0 = true := by unfold ltB Format.order; rw [e, read_zero, lt_zero hm]; rfl
      rw [this, Bool.not_true, Bool.false_and, Bool.and_false]
    · have : ltB r 0 = true := by unfold ltB Format.order; rw [e, read_zero]; rfl
      rw [this, Bool.not_true, Bool.false_and, Bool.and_false]
    · have : eqB r r = false := by unfold eqB Format.order; rw [e]; rfl
      rw [this, Bool.false_and]
theorem okB_ok {r : Nat} (h : r < 2 * NEG) (hk : okB r = true) : okW r := by rw [okB_eq h] at hk; exact of_decide_eq_true hk
theorem okW_num {r : Nat} (h : okW r) : r < INF ∨ r = NEG := h.imp (fun h => Nat.lt_of_le_of_lt h W6_lt) id
theorem isNum_fin {p : Nat} (h : p < INF) : isNum p = true := by unfold isNum; rw [read_pw h]
theorem isNum_NEG : isNum NEG = true := by unfold isNum; rw [read_NEG]
theorem mulW_lt {r n : Nat} (hr : okW r) (h : r ≠ NEG) (hn : n ≤ 1048576) : mulW r (fN n) < INF := Nat.lt_of_le_of_lt (mulW_top (hr.resolve_right h) hn) TOP_lt
/-- Fee at a rate that is right and a weight that is one. -/
theorem fee_fin (r n : Nat) (hr : okW r) (hr2 : r < 2 * NEG) (hn : n ≤ 1048576) (w : World) : Calls Try.prog 15 #[.float .f64 r, .int .i64 (n : Int)] w fun e w' => e = .returned (.tuple #[.int .i64 (feeN r n : Nat), .int .i64 0]) ∧ w' = w := by
  have hb := big_B
  have hm := mul_bits (okW_num hr) (fN_lt (n := n) (by omega))
  rw [← fN_int] at hm
  have ho : okB r = true := by rw [okB_eq hr2]; exact decide_eq_true hr
  unfold feeN
  by_cases h : r = NEG
  · rw [if_pos h]
    rw [h, mulW_NEG] at hm
    rw [h] at ho ⊢
    exact fee_ok NEG NEG NEG n 0 w ho (by omega) (by omega) hm isNum_NEG ceil_NEG toInt_NEG
  · rw [if_neg h]
    have hl := mulW_lt hr h hn
    have hu := up_top (hr.resolve_right h) hn
    rw [fN_int] at hm
    refine fee_ok r _ (fN (up (mulW r (fN n)))) n _ w ho (by omega) (by omega) (by rw [fN_int]; exact hm) (isNum_fin hl) (ceil_fin hl) (toInt_fN (by omega))
theorem reffee_fin (r n : Nat) (hr : okW r) (hr2 : r < 2 * NEG) (hn : n ≤ 1048576) (w : World) : Calls Try.prog 19 #[.float .f64 r, .int .i64 (n : Int)] w fun e w' => e = .returned (.tuple #[.int .i64 (feeN r n : Nat), .int .i64 0]) ∧ w' = w := by
  have hb := big_B
  have hm := mul_bits (okW_num hr) (fN_lt (n := n) (by omega))
  rw [← fN_int] at hm
  have ho : rightB r = true := by rw [rightB_eq hr2, okB_eq hr2]; exact decide_eq_true hr
  unfold feeN
  by_cases h : r = NEG
  · rw [if_pos h]
    rw [h, mulW_NEG] at hm
    rw [h] at ho ⊢
    have e : ltB (floatOfInt .f64 0) NEG = false := by decide +kernel
    have := reffee_ok NEG NEG NEG n 0 w ho (by omega) (by omega) hm isNum_NEG floor_NEG toInt_NEG (by decide) (by decide)
    rw [e] at this
    exact this
  · rw [if_neg h]
    have hl := mulW_lt hr h hn
    have hu := up_top (hr.resolve_right h) hn
    have hd := up_dn (mulW r (fN n))
    rw [fN_int] at hm
    have := reffee_ok r (mulW r (fN n)) (fN (dn (mulW r (fN n)))) n (dn (mulW r (fN n)) : Nat) w ho (by omega) (by omega) (by rw [fN_int]; exact hm) (isNum_fin hl) (floor_fin hl) (toInt_fN (by omega)) (by omega) (by omega)
    rw [fN_int] at this
    have e := up_of_dn (show up (mulW r (fN n)) < 2 * B by omega) hl
    have e2 : (if ltB (fN (dn (mulW r (fN n)))) (mulW r (fN n)) = true then ((dn (mulW r (fN n)) : Nat) : Int) + 1 else (dn (mulW r (fN n)) : Nat)) = (up (mulW r (fN n)) : Nat) := by
      rw [← e]
      split <;> rfl
    rw [e2] at this
    exact this
/-- Any rate, any weight: both answer alike. -/
theorem fee_says (r : Nat) (n : Int) (hr : r < 2 * NEG) : ∃ a e : Int, (∀ w, Calls Try.prog 15 #[.float .f64 r, .int .i64 n] w fun x w' => x = .returned (.tuple #[.int .i64 a, .int .i64 e]) ∧ w' = w) ∧ (∀ w, Calls Try.prog 19 #[.float .f64 r, .int .i64 n] w fun x w' => x = .returned (.tuple #[.int .i64 a, .int .i64 e]) ∧ w' = w) := by
  cases ho : okB r with
  | false => exact ⟨0, 15, fun w => fee_bad r n w ho, fun w => reffee_bad r n w (by rw [rightB_eq hr]; exact ho)⟩
  | true =>
    by_cases hn : n < 0 ∨ 1048576 < n
    · exact ⟨0, 1, fun w => fee_arg r n w ho hn, fun w => reffee_arg r n w (by rw [rightB_eq hr]; exact ho) hn⟩
    · obtain ⟨k, rfl⟩ : ∃ k : Nat, n = k := ⟨n.toNat, by omega⟩
      have hk := okB_ok hr ho
      exact ⟨_, _, fee_fin r k hk hr (by omega), reffee_fin r k hk hr (by omega)⟩
theorem minO_lt {a b : Nat} (h : double.order a b = some .lt) : minO a b = some a := by unfold minO; rw [h]
theorem minO_gt {a b : Nat} (h : double.order a b = some .gt) : minO a b = some b := by unfold minO; rw [h]
/-- The lesser of two finite floats that are no less than nought. -/
theorem minO_fin {a b : Nat} (ha : a < INF) (hb : b < INF) : minO a b = some (min a b) := by
  rcases Nat.lt_trichotomy a b with h | h | h
  · rw [minO_lt (by rw [order_fin ha hb, Nat.compare_eq_lt.2 h]), Nat.min_eq_left (by omega)]
  · unfold minO
    rw [order_fin ha hb, Nat.compare_eq_eq.2 h]
    show some (if _ then a else b) = _
    rw [h]
    split <;> rw [Nat.min_self]
  · rw [minO_gt (by rw [order_fin ha hb, Nat.compare_eq_gt.2 h]), Nat.min_eq_right (by omega)]
theorem order_NEG {b : Nat} (hb : b < INF) (h0 : Mw b ≠ 0) : double.order b NEG = some .gt := by
  unfold Format.order
  rw [read_pw hb, read_NEG]
  show some (compare (signed false (Mw b) (Pw b - min (Pw b) (-1074)).toNat) (signed true 0 ((-1074 : Int) - min (Pw b) (-1074)).toNat)) = _
  have h1 : signed false (Mw b) (Pw b - min (Pw b) (-1074)).toNat = ((Mw b <<< (Pw b - min (Pw b) (-1074)).toNat : Nat) : Int) := rfl
  have h2 : signed true 0 ((-1074 : Int) - min (Pw b) (-1074)).toNat = 0 := by unfold signed; simp
  rw [h1, h2, Nat.shiftLeft_eq, show (0 : Int) = ((0 : Nat) : Int) from rfl, cmp_int]
  have : 0 < Mw b * 2 ^ (Pw b - min (Pw b) (-1074)).toNat := Nat.mul_pos (Nat.pos_of_ne_zero h0) (pow_pos' _)
  rw [Nat.compare_eq_gt.2 this]
/-- The rate of a fee and a weight. -/
def ofW (f n : Nat) : Nat := min (divW (fN f) (fN n)) W6
theorem of_fin (f n : Nat) (hf : f ≤ 1125899906842624) (hn0 : 0 < n) (hn : n ≤ 1048576) (w : World) : Calls Try.prog 20 #[.int .i64 (f : Int), .int .i64 (n : Int)] w fun e w' => e = .returned (.tuple #[.float .f64 (ofW f n), .int .i64 0]) ∧ w' = w := by
  have hb := big_B
  have hd := div_bits (fN_lt (n := f) (by omega)) (fN_lt (n := n) (by omega)) (M_pos (fN_pos hn0 (by omega)))
  exact of_ok f n _ _ w (by omega) (by omega) (by omega) (by omega) (by rw [fN_int, fN_int]; exact hd) (minO_fin (div_lt hf hn0 hn) W6_lt)
theorem refof_fin (f n : Nat) (hf : f ≤ 1125899906842624) (hn0 : 0 < n) (hn : n ≤ 1048576) (w : World) : Calls Try.prog 21 #[.int .i64 (f : Int), .int .i64 (n : Int)] w fun e w' => e = .returned (.tuple #[.float .f64 (ofW f n), .int .i64 0]) ∧ w' = w := by
  have hb := big_B
  have hd := div_bits (fN_lt (n := f) (by omega)) (fN_lt (n := n) (by omega)) (M_pos (fN_pos hn0 (by omega)))
  have := refof_ok f n _ w (by omega) (by omega) (by omega) (by omega) (by rw [fN_int, fN_int]; exact hd)
  have e : (if gtB (divW (fN f) (fN n)) W6 then W6 else divW (fN f) (fN n)) = ofW f n := by
    unfold ofW
    rw [gtB_fin (div_lt hf hn0 hn) W6_lt]
    by_cases h : W6 < divW (fN f) (fN n)
    · rw [if_pos (decide_eq_true h), Nat.min_eq_right (by omega)]
    · rw [if_neg (by simpa using h), Nat.min_eq_left (by omega)]
  rw [← e]
  exact this
theorem of_says (f n : Int) : ∃ (c : Nat) (e : Int), (∀ w, Calls Try.prog 20 #[.int .i64 f, .int .i64 n] w fun x w' => x = .returned (.tuple #[.float .f64 c, .int .i64 e]) ∧ w' = w) ∧ (∀ w, Calls Try.prog 21 #[.int .i64 f, .int .i64 n] w fun x w' => x = .returned (.tuple #[.float .f64 c, .int .i64 e]) ∧ w' = w) := by
  by_cases hf : f < 0 ∨ 1125899906842624 < f
  · exact ⟨0, 15, fun w => of_bad f n w hf, fun w => refof_bad f n w hf⟩
  by_cases hn : n < 1 ∨ 1048576 < n
  · exact ⟨0, 1, fun w => of_arg f n w (by omega) (by omega) hn, fun w => refof_arg f n w (by omega) (by omega) hn⟩
  obtain ⟨a, rfl⟩ : ∃ k : Nat, f = k := ⟨f.toNat, by omega⟩
  obtain ⟨b, rfl⟩ : ∃ k : Nat, n = k := ⟨n.toNat, by omega⟩
  exact ⟨_, _, of_fin a b (by omega) (by omega) (by omega), refof_fin a b (by omega) (by omega) (by omega)⟩
theorem vz_num {m : Nat} (h : okW m) : m < INF ∨ m = NEG := okW_num h
theorem plainW_fin {x : Nat} (h : x < INF) : plainW x = x := by
  unfold plainW
  rw [eqB_fin h (by decide)]
  split
  · rename_i h; exact (of_decide_eq_true h).symm
  · rfl
theorem plainW_NEG : plainW NEG = 0 := by decide +kernel
theorem mul125 {r : Nat} (h : okW r) : floatBits .mul .f64 r 4608308318706860032 = some (mulW r K125) ∧ (mulW r K125 < INF ∨ mulW r K125 = NEG) := by
  refine ⟨mul_bits (okW_num h) K125_lt, ?_⟩
  by_cases hn : r = NEG
  · subst hn
    exact .inr (mulW_NEG _)
  · exact .inl (mul125_lt (h.resolve_right hn))
theorem grow_bits {r : Nat} (h : okW r) : floatBits .add .f64 (mulW r K125) 4562254508917369340 = some (growW (vz r)) := by
  rw [growW_vz]
  exact add_bits (mul125 h).2 K001_lt (by decide)
theorem bump_fin (r m : Nat) (hr : okW r) (hm : okW m) (hr2 : r < 2 * NEG) (hm2 : m < 2 * NEG) (w : World) : Calls Try.prog 17 #[.float .f64 r, .float .f64 m] w fun x w' => x = .returned (.tuple #[.float .f64 (bumpW r m), .int .i64 0]) ∧ w' = w := by
  have ho : okB r = true := by rw [okB_eq hr2]; exact decide_eq_true hr
  have hp : okB m = true := by rw [okB_eq hm2]; exact decide_eq_true hm
  have hg := growW_lt (vz_le hr)
  have hgp := growW_pos (vz_le hr)
  have hv := vz_le hm
  by_cases h : m = NEG
  · have hc : minO (growW (vz r)) m = some NEG := by
      rw [h]
      exact minO_gt (order_NEG hg (M_pos (by have : 0 < K001 := (by decide); omega)))
    have := bump_ok r m _ _ _ w ho hp (mul125 hr).1 (grow_bits hr) hc
    rw [plainW_NEG] at this
    have e : bumpW r m = 0 := by unfold bumpW vz; rw [if_pos h, Nat.min_zero]
    rw [e]
    exact this
  · have hl := hm.resolve_right h
    have e : vz m = m := vz_fin hl
    have hc := minO_fin hg (Nat.lt_of_le_of_lt hl W6_lt)
    have := bump_ok r m _ _ _ w ho hp (mul125 hr).1 (grow_bits hr) hc
    rw [plainW_fin (Nat.lt_of_le_of_lt (Nat.min_le_left ..) hg)] at this
    unfold bumpW
    rw [e]
    exact this
theorem refbump_fin (r m : Nat) (hr : okW r) (hm : okW m) (hr2 : r < 2 * NEG) (hm2 : m < 2 * NEG) (w : World) : Calls Try.prog 22 #[.float .f64 r, .float .f64 m] w fun x w' => x = .returned (.tuple #[.float .f64 (bumpW r m), .int .i64 0]) ∧ w' = w := by
  have ho : rightB r = true := by rw [rightB_eq hr2, okB_eq hr2]; exact decide_eq_true hr
  have hp : rightB m = true := by rw [rightB_eq hm2, okB_eq hm2]; exact decide_eq_true hm
  have hg := growW_lt (vz_le hr)
  have hgp := growW_pos (vz_le hr)
  have hv := vz_le hm
  have := refbump_ok r m _ _ w ho hp (mul125 hr).1 (grow_bits hr)
  have e : plainW (if gtB (growW (vz r)) m then m else growW (vz r)) = bumpW r m := by
    by_cases h : m = NEG
    · have hc : gtB (growW (vz r)) m = true := by
        unfold gtB
        rw [h, order_NEG hg (M_pos (by have : 0 < K001 := (by decide); omega))]
        rfl
      rw [if_pos hc, h, plainW_NEG]
      unfold bumpW vz
      rw [if_pos rfl, Nat.min_zero]
    · have hl := hm.resolve_right h
      have hli := Nat.lt_of_le_of_lt hl W6_lt
      rw [gtB_fin hg hli]
      unfold bumpW
      rw [vz_fin hl]
      by_cases hc : m < growW (vz r)
      · rw [if_pos (decide_eq_true hc), plainW_fin hli, Nat.min_eq_right (by omega)]
      · rw [if_neg (by simpa using hc), plainW_fin hg, Nat.min_eq_left (by omega)]
  rw [e] at this
  exact this
theorem bump_says (r m : Nat) (hr2 : r < 2 * NEG) (hm2 : m < 2 * NEG) : ∃ (c : Nat) (e : Int), (∀ w, Calls Try.prog 17 #[.float .f64 r, .float .f64 m] w fun x w' => x = .returned (.tuple #[.float .f64 c, .int .i64 e]) ∧ w' = w) ∧ (∀ w, Calls Try.prog 22 #[.float .f64 r, .float .f64 m] w fun x w' => x = .returned (.tuple #[.float .f64 c, .int .i64 e]) ∧ w' = w) := by
  cases h0 : okB r with
  | false => exact ⟨0, 15, fun w => bump_bad r m w (.inl h0), fun w => refbump_bad r m w (.inl (by rw [rightB_eq hr2]; exact h0))⟩
  | true =>
    cases h1 : okB m with
    | false => exact ⟨0, 15, fun w => bump_bad r m w (.inr h1), fun w => refbump_bad r m w (.inr (by rw [rightB_eq hm2]; exact h1))⟩
    | true => exact ⟨_, _, bump_fin r m (okB_ok hr2 h0) (okB_ok hm2 h1) hr2 hm2, refbump_fin r m (okB_ok hr2 h0) (okB_ok hm2 h1) hr2 hm2⟩
end Go.Proofs.Ytiancafoipllbaa

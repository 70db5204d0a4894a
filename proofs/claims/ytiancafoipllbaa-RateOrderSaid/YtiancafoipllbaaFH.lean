/- What is proved: plain laws on rates: their order with minus nought among them; fees grow with rate and weight; no program in sight. No condition. -/
import Derived.Test.YtiancafoipllbaaFG
namespace Go.Proofs.Ytiancafoipllbaa
namespace Fl
open Ieee

theorem sgn0 (s : Bool) (k : Nat) : signed s 0 k = 0 := by unfold signed; simp
theorem shl_U (b k : Nat) : compare ((0 : Nat) : Int) ((Mw b <<< k : Nat) : Int) = compare 0 b ∧ compare ((Mw b <<< k : Nat) : Int) ((0 : Nat) : Int) = compare b 0 := by
  rw [cmp_int, cmp_int, Nat.shiftLeft_eq]
  by_cases h : b = 0
  · subst h
    have : Mw 0 = 0 := by unfold Mw; rw [if_pos Bpos]
    rw [this, Nat.zero_mul]
    exact ⟨rfl, rfl⟩
  · have hp : 0 < Mw b * 2 ^ k := Nat.mul_pos (Nat.pos_of_ne_zero (M_pos (Nat.pos_of_ne_zero h))) (pow_pos' k)
    rw [Nat.compare_eq_lt.2 hp, Nat.compare_eq_gt.2 hp, Nat.compare_eq_lt.2 (Nat.pos_of_ne_zero h), Nat.compare_eq_gt.2 (Nat.pos_of_ne_zero h)]
    exact ⟨rfl, rfl⟩
theorem order_nl {b : Nat} (h : b < INF) : double.order NEG b = some (compare 0 b) ∧ double.order b NEG = some (compare b 0) := by
  unfold Format.order
  rw [read_NEG, read_pw h]
  constructor
  · show some (compare (signed true 0 ((-1074 : Int) - min (-1074) (Pw b)).toNat) (signed false (Mw b) (Pw b - min (-1074) (Pw b)).toNat)) = _
    rw [sgn0]
    exact congrArg some (shl_U b _).1
  · show some (compare (signed false (Mw b) (Pw b - min (Pw b) (-1074)).toNat) (signed true 0 ((-1074 : Int) - min (Pw b) (-1074)).toNat)) = _
    rw [sgn0]
    exact congrArg some (shl_U b _).2
/-- Finite floats above minus nought, or that. -/
def nz (a : Nat) : Prop := a < INF ∨ a = NEG
theorem vz_lt {a : Nat} (h : nz a) : vz a < INF := by
  unfold vz
  split
  · decide
  · rename_i hn; exact h.resolve_right hn
theorem order_nz {a b : Nat} (ha : nz a) (hb : nz b) : double.order a b = some (compare (vz a) (vz b)) := by
  by_cases h1 : a = NEG
  · by_cases h2 : b = NEG
    · subst h1; subst h2
      decide +kernel
    · have hb := hb.resolve_right h2
      have e1 : vz a = 0 := if_pos h1
      have e2 : vz b = b := if_neg h2
      rw [e1, e2, h1, (order_nl hb).1]
  · have ha := ha.resolve_right h1
    have e1 : vz a = a := if_neg h1
    by_cases h2 : b = NEG
    · have e2 : vz b = 0 := if_pos h2
      rw [e1, e2, h2, (order_nl ha).2]
    · have e2 : vz b = b := if_neg h2
      rw [e1, e2, order_fin ha (hb.resolve_right h2)]
theorem nz_ok {a : Nat} (h : okW a) : nz a := h.imp (fun h => Nat.lt_of_le_of_lt h W6_lt) id
theorem cmps (a b : Nat) : (some (compare a b) == some Ordering.lt) = decide (a < b) ∧ (some (compare a b) == some Ordering.gt) = decide (b < a) ∧ (some (compare a b) == some Ordering.eq) = decide (a = b) := by
  rcases Nat.lt_trichotomy a b with h | h | h
  · rw [Nat.compare_eq_lt.2 h, decide_eq_true h, decide_eq_false (by omega), decide_eq_false (by omega)]; exact ⟨rfl, rfl, rfl⟩
  · rw [Nat.compare_eq_eq.2 h, decide_eq_true h, decide_eq_false (by omega), decide_eq_false (by omega)]; exact ⟨rfl, rfl, rfl⟩
  · rw [Nat.compare_eq_gt.2 h, decide_eq_true h, decide_eq_false (by omega), decide_eq_false (by omega)]; exact ⟨rfl, rfl, rfl⟩
theorem ltB_nz {a b : Nat} (ha : nz a) (hb : nz b) : ltB a b = decide (vz a < vz b) := by unfold ltB; rw [order_nz ha hb]; exact (cmps _ _).1
theorem gtB_nz {a b : Nat} (ha : nz a) (hb : nz b) : gtB a b = decide (vz b < vz a) := by unfold gtB; rw [order_nz ha hb]; exact (cmps _ _).2.1
theorem eqB_nz {a b : Nat} (ha : nz a) (hb : nz b) : eqB a b = decide (vz a = vz b) := by unfold eqB; rw [order_nz ha hb]; exact (cmps _ _).2.2
theorem leB_nz {a b : Nat} (ha : nz a) (hb : nz b) : leB a b = decide (vz a ≤ vz b) := by
  have : leB a b = (ltB a b || eqB a b) := rfl
  rw [this, ltB_nz ha hb, eqB_nz ha hb, ← Bool.decide_or]
  exact decide_eq_decide.2 (by omega)
theorem geB_nz {a b : Nat} (ha : nz a) (hb : nz b) : geB a b = decide (vz b ≤ vz a) := by
  have : geB a b = (gtB a b || eqB a b) := rfl
  rw [this, gtB_nz ha hb, eqB_nz ha hb, ← Bool.decide_or]
  exact decide_eq_decide.2 (by omega)
/-- A fee, minus nought being nought. -/
theorem mulW_0 (f : Nat) : mulW 0 f = 0 := by
  unfold mulW
  have : Mw 0 = 0 := by unfold Mw; rw [if_pos Bpos]
  rw [if_neg (by decide), this, Nat.zero_mul, near_0]
theorem up_0 : up 0 = 0 := Nat.le_zero.1 (up_le.2 (by rw [U_0]; exact Nat.zero_le _))
theorem feeN_vz (r n : Nat) : feeN r n = up (mulW (vz r) (fN n)) := by
  unfold feeN vz
  split
  · rw [mulW_0, up_0]
  · rfl
theorem feeN_mono {r s n m : Nat} (hr : okW r) (hs : okW s) (h : vz r ≤ vz s) (hn : n ≤ m) : feeN r n ≤ feeN s m := by
  rw [feeN_vz, feeN_vz]
  exact up_mono (mulW_mono (okW_ne (vz_le hr)) (okW_ne (vz_le hs)) h (fN_mono hn))
/-- The product, as a float: minus nought only at minus nought. -/
theorem mul_nz {r n : Nat} (hr : okW r) (hn : n ≤ 1048576) : nz (mulW r (fN n)) ∧ vz (mulW r (fN n)) = mulW (vz r) (fN n) := by
  by_cases h : r = NEG
  · subst h
    rw [mulW_NEG, show vz NEG = 0 from if_pos rfl, mulW_0]
    exact ⟨.inr rfl, rfl⟩
  · have hl := mulW_top (hr.resolve_right h) hn
    have hl2 : mulW r (fN n) < INF := Nat.lt_of_le_of_lt hl TOP_lt
    rw [show vz r = r from if_neg h, show vz (mulW r (fN n)) = mulW r (fN n) from if_neg (ne_NEG hl2)]
    exact ⟨.inl hl2, rfl⟩
theorem vz_fN {n : Nat} (h : n < 2 * B) : vz (fN n) = fN n := if_neg (ne_NEG (fN_lt h))
/-- A fee is not below the product .. -/
theorem fee_not_below {r n : Nat} (hr : okW r) (hn : n ≤ 1048576) : ltB (floatOfInt .f64 (feeN r n : Nat)) (mulW r (fN n)) = false := by
  have hb := big_B
  have hl := feeN_le hr hn
  obtain ⟨h1, h2⟩ := mul_nz hr hn
  rw [fN_int, ltB_nz (.inl (fN_lt (by omega))) h1, vz_fN (by omega), h2]
  apply decide_eq_false
  rw [fN_lt_iff (by omega), ← feeN_vz]
  omega
theorem minus_one : floatOfInt .f64 (-1) = 13830554455654793216 := by decide +kernel
/-- .. and less than one above it. -/
theorem fee_less {r n : Nat} (hr : okW r) (hn : n ≤ 1048576) : geB (floatOfInt .f64 ((feeN r n : Nat) - 1)) (mulW r (fN n)) = false := by
  have hb := big_B
  have hl := feeN_le hr hn
  obtain ⟨h1, h2⟩ := mul_nz hr hn
  have hv := feeN_vz r n
  by_cases h0 : feeN r n = 0
  · rw [h0]
    show geB (floatOfInt .f64 (((0 : Nat) : Int) - 1)) _ = false
    rw [show (((0 : Nat) : Int) - 1) = -1 from rfl, minus_one]
    rw [h0] at hv
    have h3 : mulW (vz r) (fN n) = 0 := by
      have h4 := up_le.1 (Nat.le_of_eq hv.symm)
      rw [Nat.zero_mul] at h4
      apply Nat.eq_zero_of_not_pos
      intro hp
      have := U_lt hp
      rw [U_0] at this
      omega
    rw [h3] at h2
    have h5 : mulW r (fN n) = 0 ∨ mulW r (fN n) = NEG := by
      by_cases hc : mulW r (fN n) = NEG
      · exact .inr hc
      · exact .inl (by rwa [show vz (mulW r (fN n)) = mulW r (fN n) from if_neg hc] at h2)
    rcases h5 with h5 | h5 <;> rw [h5] <;> decide +kernel
  · have e : ((feeN r n : Nat) : Int) - 1 = ((feeN r n - 1 : Nat) : Int) := by omega
    rw [e, fN_int, geB_nz (.inl (fN_lt (by omega))) h1, vz_fN (by omega), h2]
    apply decide_eq_false
    rw [Nat.not_le, fN_lt_iff (by omega), ← hv]
    omega
/-- The fee at the rate of a fee. -/
theorem U_W6_eq : U W6 = 1000000 * ONE := by decide +kernel
theorem fee_of {f n : Nat} (hf : f ≤ 1073741824) (hn0 : 0 < n) (hn : n ≤ 1048576) (hfn : f ≤ 1000000 * n) : f ≤ feeN (min (divW (fN f) (fN n)) W6) n ∧ feeN (min (divW (fN f) (fN n)) W6) n ≤ f + 1 := by
  have hb := big_B
  obtain ⟨h1, h2⟩ := fee_back hf hn0 hn
  have hl := div_lt (f := f) (by omega) hn0 hn
  by_cases h : divW (fN f) (fN n) ≤ W6
  · rw [Nat.min_eq_left h]
    unfold feeN
    rw [if_neg (ne_NEG hl)]
    exact ⟨h1, h2⟩
  · rw [Nat.min_eq_right (by omega)]
    unfold feeN
    rw [if_neg (by decide)]
    constructor
    · have hv : fN (1000000 * n) ≤ mulW W6 (fN n) := by
        unfold mulW
        rw [if_neg (by decide)]
        refine near_ge (fN_lt (by omega)) (Le.of (e1 := Ew (fN (1000000 * n)) + TEN) (e2 := Ew W6 + Ew (fN n)) ?_ ?_)
        · have := TEN_eq
          unfold Pw
          omega
        · have e1 : Mw W6 * Mw (fN n) * 2 ^ (Ew W6 + Ew (fN n)) = U W6 * U (fN n) := by
            unfold U
            rw [Nat.pow_add, Nat.mul_mul_mul_comm]
          have e2 : Mw (fN (1000000 * n)) * 2 ^ (Ew (fN (1000000 * n)) + TEN) = U (fN (1000000 * n)) * ONE := by
            unfold U ONE
            rw [Nat.pow_add, Nat.mul_assoc]
          rw [e1, e2, fN_U (by omega), fN_U (by omega), U_W6_eq]
          apply Nat.le_of_eq
          rw [Nat.mul_mul_mul_comm, Nat.mul_assoc (1000000 * n)]
      have := up_mono hv
      rw [up_fN (by omega)] at this
      omega
    · exact Nat.le_trans (up_mono (mulW_mono (by decide) (ne_NEG hl) (by omega) (Nat.le_refl _))) h2
end Fl
end Go.Proofs.Ytiancafoipllbaa

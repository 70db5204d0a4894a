/- What is proved: plain laws on floats: what a rate grows to; no program in sight. No condition. -/
import Derived.Test.YtiancafoipllbaaFF
namespace Go.Proofs.Ytiancafoipllbaa
namespace Fl
open Ieee

/-- 1.25, and 0.001. -/
def K125 : Nat := 4608308318706860032
def K001 : Nat := 4562254508917369340
theorem K125_lt : K125 < INF := by decide
theorem K001_lt : K001 < INF := by decide
theorem add_val (a b : Nat) : (Mw a <<< (Pw a - min (Pw a) (Pw b)).toNat + Mw b <<< (Pw b - min (Pw a) (Pw b)).toNat) * 2 ^ min (Ew a) (Ew b) = U a + U b := by
  have e1 : (Pw a - min (Pw a) (Pw b)).toNat = Ew a - min (Ew a) (Ew b) := by unfold Pw; omega
  have e2 : (Pw b - min (Pw a) (Pw b)).toNat = Ew b - min (Ew a) (Ew b) := by unfold Pw; omega
  rw [e1, e2, Nat.shiftLeft_eq, Nat.shiftLeft_eq, Nat.add_mul, Nat.mul_assoc, Nat.mul_assoc, ← Nat.pow_add, ← Nat.pow_add, Nat.sub_add_cancel (Nat.min_le_left ..), Nat.sub_add_cancel (Nat.min_le_right ..)]
  rfl
theorem min_pw (a b : Nat) : min (Pw a) (Pw b) = (min (Ew a) (Ew b) : Nat) - 1074 := by unfold Pw; omega
theorem addW_fin {a b : Nat} (h : a ≠ NEG) : addW a b = near (Mw a <<< (Pw a - min (Pw a) (Pw b)).toNat + Mw b <<< (Pw b - min (Pw a) (Pw b)).toNat) (min (Pw a) (Pw b)) := if_neg h
theorem addW_mono {a b c : Nat} (ha : a ≠ NEG) (hb : b ≠ NEG) (h : a ≤ b) : addW a c ≤ addW b c := by
  rw [addW_fin ha, addW_fin hb]
  refine near_mono (Le.of (e1 := min (Ew a) (Ew c)) (e2 := min (Ew b) (Ew c)) ?_ ?_)
  · rw [min_pw, min_pw]; omega
  · rw [add_val, add_val]
    exact Nat.add_le_add_right (U_le_iff.2 h) _
/-- What is not above a sum is not above its word. -/
theorem addW_ge {a b v : Nat} (ha : a ≠ NEG) (hv : v < INF) (h : U v ≤ U a + U b) : v ≤ addW a b := by
  rw [addW_fin ha]
  refine near_ge hv (Le.of (e1 := Ew v) (e2 := min (Ew a) (Ew b)) ?_ ?_)
  · rw [min_pw]; unfold Pw; omega
  · rw [add_val]
    exact h
theorem U_succ (r : Nat) : U (r + 1) ≤ U r + 2 ^ Ew r := by
  have hB := Bpos
  unfold U Mw Ew
  by_cases h : r < B
  · rw [if_pos h, if_pos h]
    by_cases h' : r + 1 < B
    · rw [if_pos h', if_pos h', Nat.pow_zero]; omega
    · have e : r + 1 = B := by omega
      rw [if_neg h', if_neg h', e, Nat.mod_self, Nat.div_self hB, Nat.sub_self, Nat.pow_zero]
      omega
  · have h' : ¬ r + 1 < B := by omega
    rw [if_neg h, if_neg h, if_neg h', if_neg h']
    have d1 := Nat.div_add_mod r B
    have d2 := Nat.mod_lt r hB
    have one : 1 ≤ r / B := (Nat.one_le_div_iff hB).2 (by omega)
    by_cases hc : r % B + 1 = B
    · have e : r + 1 = (r / B + 1) * B + 0 := by rw [Nat.add_mul, Nat.one_mul, Nat.mul_comm (r / B)]; omega
      obtain ⟨q1, q2⟩ := div_step (e := r / B + 1) (k := 0) hB
      rw [e, q1, q2]
      obtain ⟨k, hk⟩ : ∃ k, r / B = k + 1 := ⟨r / B - 1, by omega⟩
      rw [hk, Nat.add_sub_cancel, Nat.add_sub_cancel, Nat.pow_succ, Nat.add_zero, ← Nat.succ_mul]
      have : B * (2 ^ k * 2) = (2 * B) * 2 ^ k := by rw [Nat.mul_comm (2 ^ k), ← Nat.mul_assoc, Nat.mul_comm B]
      rw [this]
      exact Nat.mul_le_mul_right _ (by omega)
    · have e : r + 1 = r / B * B + (r % B + 1) := by rw [Nat.mul_comm]; omega
      obtain ⟨q1, q2⟩ := div_step (e := r / B) (k := r % B + 1) (by omega)
      rw [e, q1, q2, ← Nat.succ_mul]
      exact Nat.mul_le_mul_right _ (by omega)
theorem Ew_mono {a b : Nat} (h : a ≤ b) : Ew a ≤ Ew b := by
  have := Nat.div_le_div_right (c := B) h
  unfold Ew
  split <;> split <;> omega
/-- What a rate grows to. -/
def growW (r : Nat) : Nat := addW (mulW r K125) K001
theorem growW_0 : growW 0 = K001 := by decide +kernel
theorem growW_NEG : growW NEG = K001 := by decide +kernel
theorem BIG_lt : growW W6 < INF := by decide +kernel
theorem mul125_lt {r : Nat} (h : r ≤ W6) : mulW r K125 < INF := Nat.lt_of_le_of_lt (mulW_mono (okW_ne h) (okW_ne (Nat.le_refl _)) h (Nat.le_refl _)) (by decide +kernel)
theorem ne_NEG {r : Nat} (h : r < INF) : r ≠ NEG := fun e => by rw [e] at h; exact absurd h (by decide)
theorem growW_mono {r s : Nat} (h : r ≤ s) (hs : s ≤ W6) : growW r ≤ growW s :=
  addW_mono (ne_NEG (mul125_lt (by omega))) (ne_NEG (mul125_lt hs)) (mulW_mono (okW_ne (by omega)) (okW_ne hs) h (Nat.le_refl _))
theorem growW_lt {r : Nat} (h : r ≤ W6) : growW r < INF := Nat.lt_of_le_of_lt (growW_mono h (Nat.le_refl _)) BIG_lt
theorem growW_pos {r : Nat} (h : r ≤ W6) : K001 ≤ growW r := by
  rw [← growW_0]
  exact growW_mono (Nat.zero_le _) h
theorem U_W6 : 2 ^ Ew W6 ≤ U K001 := by decide +kernel
theorem K125_ge : ∀ w : Nat, w < INF → w ≠ NEG → w ≤ mulW w K125 := fun w h hn => by
  unfold mulW
  rw [if_neg hn]
  refine near_ge h (Le.of (e1 := 52) (e2 := 0) ?_ ?_)
  · have : Pw K125 = -52 := by decide
    rw [this]
    omega
  · have : Mw K125 = 5629499534213120 := by decide
    rw [this, Nat.pow_zero, Nat.mul_one]
    exact Nat.mul_le_mul_left _ (by decide)
/-- It is above what it was. -/
theorem growW_gt {r : Nat} (h : r ≤ W6) : r < growW r := by
  have hl := Nat.lt_of_le_of_lt h W6_lt
  have h1 := K125_ge r hl (okW_ne h)
  have h2 := addW_mono (c := K001) (okW_ne h) (ne_NEG (mul125_lt h)) h1
  have hs : r + 1 < INF := by have : W6 + 1 < INF := (by decide); omega
  have h3 : r + 1 ≤ addW r K001 := by
    refine addW_ge (okW_ne h) hs (Nat.le_trans (U_succ r) (Nat.add_le_add_left (Nat.le_trans ?_ U_W6) _))
    exact Nat.pow_le_pow_right (by decide) (Ew_mono h)
  have h4 : addW r K001 ≤ growW r := h2
  omega
/-- Minus nought is nought. -/
def vz (r : Nat) : Nat := if r = NEG then 0 else r
theorem vz_le {r : Nat} (h : okW r) : vz r ≤ W6 := by
  unfold vz
  split
  · exact Nat.zero_le _
  · rename_i hn
    exact h.resolve_right hn
theorem growW_vz (r : Nat) : growW (vz r) = growW r := by
  unfold vz
  split
  · rename_i h
    rw [h, growW_0, growW_NEG]
  · rfl
/-- The next rate. -/
def bumpW (r m : Nat) : Nat := min (growW (vz r)) (vz m)
theorem bumpW_le {r m : Nat} (h : okW m) : bumpW r m ≤ W6 := Nat.le_trans (Nat.min_le_right ..) (vz_le h)
theorem vz_fin {r : Nat} (h : r ≤ W6) : vz r = r := if_neg (okW_ne h)
/-- How high a rate is after so many bumps, at least. -/
def lowW : Nat → Nat
  | 0 => 0
  | k + 1 => min (growW (lowW k)) W6
theorem lowW_le (k : Nat) : lowW k ≤ W6 := by
  cases k with
  | zero => exact Nat.zero_le _
  | succ k => exact Nat.min_le_right ..
theorem low_end : lowW 100 = W6 := by decide +kernel
theorem low_add (k d : Nat) : lowW k ≤ lowW (k + d) := by
  induction d with
  | zero => exact Nat.le_refl _
  | succ d ih =>
    refine Nat.le_trans ih ?_
    have := growW_gt (lowW_le (k + d))
    have h2 := lowW_le (k + d)
    show _ ≤ min (growW (lowW (k + d))) W6
    omega
theorem low_100 {k : Nat} (h : 100 ≤ k) : lowW k = W6 := by
  have h1 := low_add 100 (k - 100)
  rw [low_end, Nat.add_sub_cancel' h] at h1
  have := lowW_le k
  omega
theorem bump_low {x m k : Nat} (hx : x ≤ W6) (h : min (lowW k) (vz m) ≤ x) (hm : okW m) : min (lowW (k + 1)) (vz m) ≤ bumpW x m := by
  have hv := vz_le hm
  have hg := growW_gt hx
  show min (min (growW (lowW k)) W6) (vz m) ≤ min (growW (vz x)) (vz m)
  rw [vz_fin hx]
  by_cases hc : lowW k ≤ x
  · have := growW_mono hc hx
    omega
  · omega
end Fl
end Go.Proofs.Ytiancafoipllbaa

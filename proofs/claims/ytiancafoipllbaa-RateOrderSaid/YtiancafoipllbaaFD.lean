/- What is proved: plain laws on floats: what the nearest word stands for; whole numbers as floats; rounding up and down to whole numbers; no program in sight. No condition. -/
import Derived.Test.YtiancafoipllbaaFC
namespace Go.Proofs.Ytiancafoipllbaa
namespace Fl
open Ieee

theorem Bpos : 0 < B := by decide
theorem div_step {e k : Nat} (h : k < B) : (e * B + k) / B = e ∧ (e * B + k) % B = k := by
  have hB := Bpos
  constructor
  · rw [Nat.mul_comm, Nat.mul_add_div hB, Nat.div_eq_of_lt h, Nat.add_zero]
  · rw [Nat.mul_comm, Nat.mul_add_mod, Nat.mod_eq_of_lt h]
/-- What the nearest word stands for, in units of 2^-1074. -/
theorem near_U {m : Nat} {p : Int} (hm : m ≠ 0) (h : near m p < INF) : U (near m p) = keptN m p * 2 ^ (lastP m p + 1074).toNat := by
  have hB := Bpos
  have hw : near m p = (lastP m p + 1074).toNat * B + keptN m p := by
    unfold near at h ⊢
    rw [if_neg hm] at h ⊢
    omega
  have k1 := kept_hi m p
  have k2 := kept_lo (p := p) (Nat.pos_of_ne_zero hm)
  have hge : -1074 ≤ lastP m p := by unfold lastP; omega
  rw [hw]
  generalize keptN m p = K at k1 k2
  obtain ⟨e, he⟩ : ∃ e, e = (lastP m p + 1074).toNat := ⟨_, rfl⟩
  have k2 : e ≠ 0 → B ≤ K := fun h => k2 (by omega)
  rw [← he]
  clear he hge hw h
  by_cases a : K < B
  · obtain rfl : e = 0 := by
      apply Nat.eq_zero_of_not_pos
      intro h
      have := k2 (by omega)
      omega
    unfold U Mw Ew
    rw [Nat.zero_mul, Nat.zero_add, if_pos a, if_pos a]
  · by_cases b : K < 2 * B
    · have e1 : e * B + K = (e + 1) * B + (K - B) := by rw [Nat.add_mul]; omega
      obtain ⟨d1, d2⟩ := div_step (e := e + 1) (k := K - B) (by omega)
      have hn : ¬ e * B + K < B := by omega
      unfold U Mw Ew
      rw [if_neg hn, if_neg hn, e1, d1, d2, Nat.add_sub_cancel, show B + (K - B) = K by omega]
    · have hK : K = 2 * B := by omega
      rw [hK]
      clear hK
      have e1 : e * B + 2 * B = (e + 2) * B + 0 := by rw [Nat.add_mul, Nat.add_zero]
      obtain ⟨d1, d2⟩ := div_step (e := e + 2) (k := 0) hB
      have hn : ¬ e * B + 2 * B < B := by omega
      unfold U Mw Ew
      rw [if_neg hn, if_neg hn, e1, d1, d2, Nat.add_zero, show e + 2 - 1 = e + 1 from rfl, Nat.pow_succ, Nat.mul_comm 2 B, Nat.mul_assoc, Nat.mul_comm 2]
theorem near_0 (p : Int) : near 0 p = 0 := by unfold near; rw [if_pos rfl]
theorem U_0 : U 0 = 0 := by unfold U Mw Ew; rw [if_pos Bpos, if_pos Bpos, Nat.zero_mul]
/-- Numbers of at most 53 bits are rounded to themselves. -/
theorem near_own {m : Nat} {p : Int} (hm : m < 2 * B) (hp : -1074 ≤ p) (h : near m p < INF) : U (near m p) = m * 2 ^ (p + 1074).toNat := by
  by_cases h0 : m = 0
  · subst h0; rw [near_0, U_0, Nat.zero_mul]
  rw [near_U h0 h]
  have hl : m.log2 ≤ 52 := by
    have : m.log2 < 53 := (Nat.log2_lt h0).2 (by have : 2 * B = 2 ^ 53 := (by decide); omega)
    omega
  have hq : lastP m p ≤ p := by unfold lastP; omega
  have hge : -1074 ≤ lastP m p := by unfold lastP; omega
  unfold keptN
  have e0 : (lastP m p - p).toNat = 0 := by omega
  rw [e0]
  have : m * 2 ^ (p - lastP m p).toNat = (m * 2 ^ (p - lastP m p).toNat) * 2 ^ 0 := by rw [Nat.pow_zero, Nat.mul_one]
  rw [this, rne_exact, Nat.mul_assoc, ← Nat.pow_add]
  congr 2
  omega
def TEN : Nat := 1074
theorem TEN_eq : TEN = 1074 := rfl
def ONE : Nat := 2 ^ TEN
theorem ONEpos : 0 < ONE := Nat.two_pow_pos _
theorem ONE_at : (2 : Nat) ^ ((0 : Int) + 1074).toNat = ONE := by
  unfold ONE
  congr 1
/-- Whole numbers. -/
def fN (n : Nat) : Nat := near n 0
theorem near_fin {m : Nat} {p : Int} {m2 : Nat} {p2 : Int} (h : Le m p m2 p2) (h2 : near m2 p2 < INF) : near m p < INF := Nat.lt_of_le_of_lt (near_mono h) h2
theorem near_53 : near (2 ^ 53) 0 = 4845873199050653696 := by decide +kernel
theorem fN_lt {n : Nat} (h : n < 2 * B) : fN n < INF := near_fin (m2 := 2 ^ 53) (p2 := 0) (Le.of (e1 := 0) (e2 := 0) rfl (by have : 2 * B = 2 ^ 53 := (by decide); omega)) (by rw [near_53]; decide)
theorem fN_U {n : Nat} (h : n < 2 * B) : U (fN n) = n * ONE := by
  have := near_own h (by omega) (fN_lt h)
  rwa [ONE_at] at this
theorem U_le_iff {a b : Nat} : U a ≤ U b ↔ a ≤ b := by
  constructor
  · intro h
    apply Nat.le_of_not_lt
    intro hlt
    have := U_lt hlt
    omega
  · intro h
    rcases Nat.lt_or_eq_of_le h with h | h
    · exact Nat.le_of_lt (U_lt h)
    · rw [h]; exact Nat.le_refl _
theorem U_lt_iff {a b : Nat} : U a < U b ↔ a < b := by rw [← Nat.not_le, U_le_iff, Nat.not_le]
/-- A word's number as a pair of letters stands in Le's order as U says. -/
theorem Le_U {a : Nat} {m : Nat} {p : Int} (hp : -1074 ≤ p) : Le (Mw a) (Pw a) m p ↔ U a ≤ m * 2 ^ (p + 1074).toNat := by
  constructor
  · intro h
    exact h.up (e1 := Ew a) (e2 := (p + 1074).toNat) (by unfold Pw; omega)
  · intro h
    exact Le.of (e1 := Ew a) (e2 := (p + 1074).toNat) (by unfold Pw; omega) h
theorem Le_U' {a : Nat} {m : Nat} {p : Int} (hp : -1074 ≤ p) : Le m p (Mw a) (Pw a) ↔ m * 2 ^ (p + 1074).toNat ≤ U a := by
  constructor
  · intro h
    exact h.up (e1 := (p + 1074).toNat) (e2 := Ew a) (by unfold Pw; omega)
  · intro h
    exact Le.of (e1 := (p + 1074).toNat) (e2 := Ew a) (by unfold Pw; omega) h
/-- Rounded up, rounded down. -/
def cdiv (a b : Nat) : Nat := (a + b - 1) / b
theorem cdiv_le {a b c : Nat} (hb : 0 < b) : cdiv a b ≤ c ↔ a ≤ c * b := by
  unfold cdiv
  rw [← Nat.lt_succ_iff, Nat.div_lt_iff_lt_mul hb, Nat.succ_mul]
  omega
theorem cdiv_mul {a b c : Nat} (hb : 0 < b) (hc : 0 < c) : cdiv (a * c) (b * c) = cdiv a b := by
  have h : ∀ k, cdiv (a * c) (b * c) ≤ k ↔ cdiv a b ≤ k := fun k => by
    rw [cdiv_le (Nat.mul_pos hb hc), cdiv_le hb, ← Nat.mul_assoc]
    exact ⟨fun h => Nat.le_of_mul_le_mul_right h hc, fun h => Nat.mul_le_mul_right c h⟩
  exact Nat.le_antisymm ((h _).2 (Nat.le_refl _)) ((h _).1 (Nat.le_refl _))
theorem cdiv_of {n g : Nat} (hg : 0 < g) : n / g + (if n % g ≠ 0 then 1 else 0) = cdiv n g := by
  have hd := Nat.div_add_mod n g
  have hm := Nat.mod_lt n hg
  have h : ∀ k, n / g + (if n % g ≠ 0 then 1 else 0) ≤ k ↔ cdiv n g ≤ k := fun k => by
    rw [cdiv_le hg]
    generalize n / g = q at hd ⊢
    generalize n % g = r at hd hm ⊢
    subst hd
    have e1 : q ≤ k → g * q ≤ k * g := fun h => by rw [Nat.mul_comm k]; exact Nat.mul_le_mul_left _ h
    have e2 : q + 1 ≤ k → g * q + g ≤ k * g := fun h => by
      have := Nat.mul_le_mul_left g h
      rw [Nat.mul_add, Nat.mul_one, Nat.mul_comm g k] at this
      exact this
    have e3 : k < q → k * g + g ≤ g * q := fun h => by
      have := Nat.mul_le_mul_left g (show k + 1 ≤ q from h)
      rw [Nat.mul_add, Nat.mul_one, Nat.mul_comm g k] at this
      exact this
    have e4 : q = k → g * q = k * g := fun h => by rw [h, Nat.mul_comm]
    split
    · constructor
      · intro h; have := e2 h; omega
      · intro h
        apply Nat.le_of_not_lt
        intro hlt
        rcases Nat.lt_trichotomy k q with h1 | h1 | h1
        · have := e3 h1; omega
        · have := e4 h1.symm; omega
        · omega
    · constructor
      · intro h; have := e1 h; omega
      · intro h
        apply Nat.le_of_not_lt
        intro hlt
        have := e3 hlt
        omega
  exact Nat.le_antisymm ((h _).2 (Nat.le_refl _)) ((h _).1 (Nat.le_refl _))
theorem gap_eq {n drop : Nat} (h : ¬ drop ≤ n.log2 + 2) : n / 1 <<< min drop (n.log2 + 2) = 0 ∧ n % 1 <<< min drop (n.log2 + 2) = n ∧ n / 2 ^ drop = 0 ∧ n % 2 ^ drop = n := by
  have hn : n < 2 ^ (n.log2 + 1) := Nat.lt_log2_self
  have h1 : 2 * n < 2 ^ (n.log2 + 2) := by rw [Nat.pow_succ]; omega
  have h2 : 2 ^ (n.log2 + 2) ≤ 2 ^ drop := Nat.pow_le_pow_right (by decide) (by omega)
  rw [Nat.one_shiftLeft, Nat.min_eq_right (by omega)]
  exact ⟨Nat.div_eq_of_lt (by omega), Nat.mod_eq_of_lt (by omega), Nat.div_eq_of_lt (by omega), Nat.mod_eq_of_lt (by omega)⟩
theorem cut_up (n drop : Nat) : Toward.up.cut false n drop = cdiv n (2 ^ drop) := by
  have hdef : Toward.up.cut false n drop = n / (1 <<< min drop (n.log2 + 2)) + (true && n % (1 <<< min drop (n.log2 + 2)) != 0).toNat := rfl
  rw [hdef, Bool.true_and, ← cdiv_of (Nat.two_pow_pos drop)]
  have hb : ∀ r : Nat, (r != 0).toNat = if r ≠ 0 then 1 else 0 := fun r => by
    by_cases h : r = 0
    · subst h; rfl
    · rw [if_pos h, bne_iff_ne.2 h]; rfl
  rw [hb]
  by_cases h : drop ≤ n.log2 + 2
  · rw [Nat.min_eq_left h, Nat.one_shiftLeft]
  · obtain ⟨a, b, c, d⟩ := gap_eq h
    rw [a, b, c, d]
theorem cut_down (n drop : Nat) : Toward.down.cut false n drop = n / 2 ^ drop := by
  have hdef : Toward.down.cut false n drop = n / (1 <<< min drop (n.log2 + 2)) + (false && n % (1 <<< min drop (n.log2 + 2)) != 0).toNat := rfl
  rw [hdef, Bool.false_and]
  show n / (1 <<< min drop (n.log2 + 2)) + 0 = _
  rw [Nat.add_zero]
  by_cases h : drop ≤ n.log2 + 2
  · rw [Nat.min_eq_left h, Nat.one_shiftLeft]
  · obtain ⟨a, b, c, d⟩ := gap_eq h
    rw [a, c]
theorem cut_zero (s : Bool) (n drop : Nat) : Toward.zero.cut s n drop = n / 2 ^ drop := by
  have hdef : Toward.zero.cut s n drop = n / (1 <<< min drop (n.log2 + 2)) + 0 := rfl
  rw [hdef, Nat.add_zero]
  by_cases h : drop ≤ n.log2 + 2
  · rw [Nat.min_eq_left h, Nat.one_shiftLeft]
  · obtain ⟨a, b, c, d⟩ := gap_eq h
    rw [a, c]
/-- Up to a whole number, down to a whole number. -/
def up (w : Nat) : Nat := cdiv (U w) ONE
def dn (w : Nat) : Nat := U w / ONE
theorem up_eq (w : Nat) : cdiv (Mw w <<< (Pw w).toNat) (2 ^ (-(Pw w)).toNat) = up w := by
  unfold up U ONE
  rw [Nat.shiftLeft_eq]
  by_cases h : Ew w ≤ 1074
  · have e1 : (Pw w).toNat = 0 := by unfold Pw; omega
    have e2 : (-(Pw w)).toNat = 1074 - Ew w := by unfold Pw; omega
    rw [e1, e2, Nat.pow_zero, Nat.mul_one]
    have e3 : (2 : Nat) ^ TEN = 2 ^ (1074 - Ew w) * 2 ^ Ew w := by rw [← Nat.pow_add, TEN_eq, Nat.sub_add_cancel h]
    rw [e3, cdiv_mul (Nat.two_pow_pos _) (Nat.two_pow_pos _)]
  · have e1 : (Pw w).toNat = Ew w - 1074 := by unfold Pw; omega
    have e2 : (-(Pw w)).toNat = 0 := by unfold Pw; omega
    rw [e1, e2]
    have e3 : (2 : Nat) ^ Ew w = 2 ^ (Ew w - 1074) * 2 ^ TEN := by rw [← Nat.pow_add, TEN_eq, Nat.sub_add_cancel (by omega)]
    have e4 : (2 : Nat) ^ TEN = 2 ^ 0 * 2 ^ TEN := by rw [Nat.pow_zero, Nat.one_mul]
    rw [e3, ← Nat.mul_assoc]
    conv => rhs; arg 2; rw [e4]
    rw [cdiv_mul (Nat.two_pow_pos _) (Nat.two_pow_pos _)]
theorem dn_eq (w : Nat) : (Mw w <<< (Pw w).toNat) / 2 ^ (-(Pw w)).toNat = dn w := by
  unfold dn U ONE
  rw [Nat.shiftLeft_eq]
  by_cases h : Ew w ≤ 1074
  · have e1 : (Pw w).toNat = 0 := by unfold Pw; omega
    have e2 : (-(Pw w)).toNat = 1074 - Ew w := by unfold Pw; omega
    rw [e1, e2, Nat.pow_zero, Nat.mul_one]
    have e3 : (2 : Nat) ^ TEN = 2 ^ (1074 - Ew w) * 2 ^ Ew w := by rw [← Nat.pow_add, TEN_eq, Nat.sub_add_cancel h]
    rw [e3, Nat.mul_div_mul_right _ _ (Nat.two_pow_pos _)]
  · have e1 : (Pw w).toNat = Ew w - 1074 := by unfold Pw; omega
    have e2 : (-(Pw w)).toNat = 0 := by unfold Pw; omega
    rw [e1, e2]
    have e3 : (2 : Nat) ^ Ew w = 2 ^ (Ew w - 1074) * 2 ^ TEN := by rw [← Nat.pow_add, TEN_eq, Nat.sub_add_cancel (by omega)]
    rw [e3, ← Nat.mul_assoc, Nat.mul_div_cancel _ (Nat.two_pow_pos _), Nat.pow_zero, Nat.div_one]
theorem up_le {w c : Nat} : up w ≤ c ↔ U w ≤ c * ONE := cdiv_le ONEpos
theorem le_dn {w c : Nat} : c ≤ dn w ↔ c * ONE ≤ U w := Nat.le_div_iff_mul_le ONEpos
theorem up_fN {n : Nat} (h : n < 2 * B) : up (fN n) = n := by
  apply Nat.le_antisymm
  · rw [up_le, fN_U h]; exact Nat.le_refl _
  · apply Nat.le_of_not_lt
    intro hlt
    have h2 : up (fN n) ≤ n - 1 := by omega
    rw [up_le, fN_U h] at h2
    have := Nat.le_of_mul_le_mul_right h2 ONEpos
    omega
theorem dn_fN {n : Nat} (h : n < 2 * B) : dn (fN n) = n := by unfold dn; rw [fN_U h, Nat.mul_div_cancel _ ONEpos]
theorem up_mono {a b : Nat} (h : a ≤ b) : up a ≤ up b := up_le.2 (Nat.le_trans (U_le_iff.2 h) (up_le.1 (Nat.le_refl _)))
theorem up_dn (w : Nat) : up w = dn w + (if dn w * ONE < U w then 1 else 0) := by
  unfold up dn
  rw [← cdiv_of ONEpos]
  have hd := Nat.div_add_mod (U w) ONE
  rw [Nat.mul_comm] at hd
  congr 1
  by_cases h : U w % ONE = 0
  · rw [if_neg (by simpa using h), if_neg (by omega)]
  · rw [if_pos h, if_pos (by omega)]
/-- A whole number against a word. -/
theorem fN_lt_iff {n w : Nat} (h : n < 2 * B) : fN n < w ↔ n < up w := by
  rw [← U_lt_iff, fN_U h, ← Nat.not_le, ← Nat.not_le, up_le]
end Fl
end Go.Proofs.Ytiancafoipllbaa

/- What is proved: plain laws on floats: rounding to the nearest word is monotone and leaves words as they are; no program in sight. No condition. -/
import Derived.Test.YtiancafoipllbaaFB
namespace Go.Proofs.Ytiancafoipllbaa
namespace Fl
open Ieee

def lastP (m : Nat) (p : Int) : Int := max (p + m.log2 - 52) (-1074)
def keptN (m : Nat) (p : Int) : Nat := rne (m * 2 ^ (p - lastP m p).toNat) (lastP m p - p).toNat
/-- The word nearest to m * 2^p. -/
def near (m : Nat) (p : Int) : Nat := if m = 0 then 0 else min ((lastP m p + 1074).toNat * B + keptN m p) INF
theorem nearest_eq (m : Nat) (p : Int) : double.nearest false m p = near m p := by
  have hf : ((double.fractionBits : Nat) : Int) = 52 := rfl
  have hw : ∀ r, double.word false r = r := fun _ => rfl
  unfold Format.nearest near keptN lastP
  rw [d_least, d_binade, d_inf, hf]
  simp only [hw, cut_even, Nat.shiftLeft_eq, Int.sub_neg]
theorem nearest_neg0 (p : Int) : double.nearest true 0 p = NEG := by
  have hw : double.word true 0 = double.signWeight + 0 := rfl
  unfold Format.nearest
  rw [if_pos rfl, hw, d_sign, Nat.add_zero]
/-- m1 * 2^p1 is not above m2 * 2^p2. -/
def Le (m1 : Nat) (p1 : Int) (m2 : Nat) (p2 : Int) : Prop := m1 * 2 ^ (p1 - min p1 p2).toNat ≤ m2 * 2 ^ (p2 - min p1 p2).toNat
theorem Le.up {m1 m2 : Nat} {p1 p2 : Int} (h : Le m1 p1 m2 p2) {e1 e2 : Nat} (he : (e1 : Int) - e2 = p1 - p2) : m1 * 2 ^ e1 ≤ m2 * 2 ^ e2 := by
  unfold Le at h
  obtain ⟨c, h1, h2⟩ : ∃ c : Nat, e1 = (p1 - min p1 p2).toNat + c ∧ e2 = (p2 - min p1 p2).toNat + c := by
    by_cases hp : p1 ≤ p2
    · exact ⟨e1, by omega, by omega⟩
    · exact ⟨e2, by omega, by omega⟩
  rw [h1, h2, Nat.pow_add, Nat.pow_add, ← Nat.mul_assoc, ← Nat.mul_assoc]
  exact Nat.mul_le_mul_right _ h
theorem Le.of {m1 m2 : Nat} {p1 p2 : Int} {e1 e2 : Nat} (he : (e1 : Int) - e2 = p1 - p2) (h : m1 * 2 ^ e1 ≤ m2 * 2 ^ e2) : Le m1 p1 m2 p2 := by
  unfold Le
  obtain ⟨c, h1, h2⟩ : ∃ c : Nat, e1 = (p1 - min p1 p2).toNat + c ∧ e2 = (p2 - min p1 p2).toNat + c := by
    by_cases hp : p1 ≤ p2
    · exact ⟨e1, by omega, by omega⟩
    · exact ⟨e2, by omega, by omega⟩
  rw [h1, h2, Nat.pow_add, Nat.pow_add, ← Nat.mul_assoc, ← Nat.mul_assoc] at h
  exact Nat.le_of_mul_le_mul_right h (pow_pos' c)
theorem Le.refl (m : Nat) (p : Int) : Le m p m p := Nat.le_refl _
theorem Le.trans {m1 m2 m3 : Nat} {p1 p2 p3 : Int} (h : Le m1 p1 m2 p2) (h' : Le m2 p2 m3 p3) : Le m1 p1 m3 p3 := by
  obtain ⟨b, hb⟩ : ∃ b : Int, b ≤ p1 ∧ b ≤ p2 ∧ b ≤ p3 := ⟨min p1 (min p2 p3), by omega, by omega, by omega⟩
  have h1 := h.up (e1 := (p1 - b).toNat) (e2 := (p2 - b).toNat) (by omega)
  have h2 := h'.up (e1 := (p2 - b).toNat) (e2 := (p3 - b).toNat) (by omega)
  exact Le.of (e1 := (p1 - b).toNat) (e2 := (p3 - b).toNat) (by omega) (Nat.le_trans h1 h2)
theorem Le.log {m1 m2 : Nat} {p1 p2 : Int} (h : Le m1 p1 m2 p2) (h1 : 0 < m1) : p1 + m1.log2 ≤ p2 + m2.log2 := by
  apply Int.not_lt.1
  intro hlt
  have a1 := Nat.log2_self_le (Nat.ne_of_gt h1)
  have a2 : m2 < 2 ^ (m2.log2 + 1) := Nat.lt_log2_self
  unfold Le at h
  obtain ⟨u1, hu1⟩ : ∃ u, u = (p1 - min p1 p2).toNat := ⟨_, rfl⟩
  obtain ⟨u2, hu2⟩ : ∃ u, u = (p2 - min p1 p2).toNat := ⟨_, rfl⟩
  rw [← hu1, ← hu2] at h
  have b1 : 2 ^ m1.log2 * 2 ^ u1 ≤ m1 * 2 ^ u1 := Nat.mul_le_mul_right _ a1
  have b2 : m2 * 2 ^ u2 < 2 ^ (m2.log2 + 1) * 2 ^ u2 := Nat.mul_lt_mul_of_pos_right a2 (pow_pos' _)
  rw [← Nat.pow_add] at b1 b2
  have b3 : 2 ^ (m2.log2 + 1 + u2) ≤ 2 ^ (m1.log2 + u1) := Nat.pow_le_pow_right (by decide) (by omega)
  omega
theorem kept_hi (m : Nat) (p : Int) : keptN m p ≤ 2 * B := by
  have a2 : m < 2 ^ (m.log2 + 1) := Nat.lt_log2_self
  have hl : p + m.log2 - 52 ≤ lastP m p := by unfold lastP; omega
  have hB : 2 * B = 2 ^ 53 := by decide
  unfold keptN
  generalize lastP m p = q at hl ⊢
  have b1 : m * 2 ^ (p - q).toNat ≤ 2 ^ (m.log2 + 1) * 2 ^ (p - q).toNat := Nat.mul_le_mul_right _ (Nat.le_of_lt a2)
  have b2 : 2 ^ (m.log2 + 1) * 2 ^ (p - q).toNat ≤ (2 * B) * 2 ^ (q - p).toNat := by
    rw [hB, ← Nat.pow_add, ← Nat.pow_add]
    exact Nat.pow_le_pow_right (by decide) (by omega)
  have h := rne_mono (n1 := m * 2 ^ (p - q).toNat) (k1 := (q - p).toNat) (n2 := (2 * B) * 2 ^ (q - p).toNat) (k2 := (q - p).toNat) (Nat.mul_le_mul_right _ (Nat.le_trans b1 b2))
  rwa [rne_exact] at h
theorem kept_lo {m : Nat} {p : Int} (h : 0 < m) (hl : -1074 < lastP m p) : B ≤ keptN m p := by
  have a1 := Nat.log2_self_le (Nat.ne_of_gt h)
  have hl : p + m.log2 - 52 = lastP m p := by unfold lastP at hl ⊢; omega
  have hB : B = 2 ^ 52 := by decide
  unfold keptN
  generalize lastP m p = q at hl ⊢
  have b1 : 2 ^ m.log2 * 2 ^ (p - q).toNat ≤ m * 2 ^ (p - q).toNat := Nat.mul_le_mul_right _ a1
  have b2 : B * 2 ^ (q - p).toNat ≤ 2 ^ m.log2 * 2 ^ (p - q).toNat := by
    rw [hB, ← Nat.pow_add, ← Nat.pow_add]
    exact Nat.pow_le_pow_right (by decide) (by omega)
  have h := rne_mono (n1 := B * 2 ^ (q - p).toNat) (k1 := (q - p).toNat) (n2 := m * 2 ^ (p - q).toNat) (k2 := (q - p).toNat) (Nat.mul_le_mul_right _ (Nat.le_trans b2 b1))
  rwa [rne_exact] at h
/-- Rounding is monotone. -/
theorem near_mono {m1 m2 : Nat} {p1 p2 : Int} (h : Le m1 p1 m2 p2) : near m1 p1 ≤ near m2 p2 := by
  unfold near
  by_cases h1 : m1 = 0
  · rw [if_pos h1]; exact Nat.zero_le _
  by_cases h2 : m2 = 0
  · subst h2
    unfold Le at h
    rw [Nat.zero_mul] at h
    have := Nat.mul_pos (Nat.pos_of_ne_zero h1) (pow_pos' (p1 - min p1 p2).toNat)
    omega
  rw [if_neg h1, if_neg h2]
  have hlog := h.log (Nat.pos_of_ne_zero h1)
  have hlast : lastP m1 p1 ≤ lastP m2 p2 := by unfold lastP; omega
  have hge : -1074 ≤ lastP m1 p1 := by unfold lastP; omega
  have k1 := kept_hi m1 p1
  have k2 : -1074 < lastP m2 p2 → B ≤ keptN m2 p2 := kept_lo (Nat.pos_of_ne_zero h2)
  have k3 : lastP m1 p1 = lastP m2 p2 → keptN m1 p1 ≤ keptN m2 p2 := fun he => by
    unfold keptN
    rw [he]
    refine rne_mono ?_
    rw [Nat.mul_assoc, Nat.mul_assoc, ← Nat.pow_add, ← Nat.pow_add]
    exact h.up (by omega)
  generalize keptN m1 p1 = x1 at k1 k3 ⊢
  generalize keptN m2 p2 = x2 at k2 k3 ⊢
  generalize lastP m1 p1 = q1 at hlast hge k3 ⊢
  generalize lastP m2 p2 = q2 at hlast k2 k3 ⊢
  generalize B = b at k1 k2 ⊢
  generalize INF = inf
  have hle : (q1 + 1074).toNat * b + x1 ≤ (q2 + 1074).toNat * b + x2 := by
    by_cases he : q1 = q2
    · rw [he]
      exact Nat.add_le_add_left (k3 he) _
    · have k2 := k2 (by omega)
      have : ((q1 + 1074).toNat + 1) * b ≤ (q2 + 1074).toNat * b := Nat.mul_le_mul_right _ (by omega)
      rw [Nat.add_mul, Nat.one_mul] at this
      omega
  omega
theorem log_eq {m k : Nat} (h1 : 2 ^ k ≤ m) (h2 : m < 2 ^ (k + 1)) : m.log2 = k := by
  have hm : m ≠ 0 := fun e => by have := pow_pos' k; omega
  have a := (Nat.log2_lt hm).2 h2
  have b := (Nat.le_log2 hm).2 h1
  omega
/-- A word is the nearest to what it stands for. -/
theorem near_exact {w : Nat} (h : w < INF) : near (Mw w) (Pw w) = w := by
  have hB : 0 < B := by decide
  unfold near
  by_cases hw : w < B
  · have hm : Mw w = w := by unfold Mw; rw [if_pos hw]
    have he : Ew w = 0 := by unfold Ew; rw [if_pos hw]
    rw [hm]
    by_cases h0 : w = 0
    · rw [if_pos h0, h0]
    · rw [if_neg h0]
      have hl : w.log2 < 52 := (Nat.log2_lt h0).2 hw
      have hP : Pw w = -1074 := by unfold Pw; rw [he]; rfl
      have hlast : lastP w (Pw w) = -1074 := by unfold lastP; rw [hP]; omega
      unfold keptN
      rw [hlast, hP, Int.sub_self, Int.toNat_zero, rne_exact, show ((-1074 : Int) + 1074).toNat = 0 from rfl, Nat.zero_mul, Nat.zero_add]
      exact Nat.min_eq_left (Nat.le_of_lt h)
  · have hm : Mw w = B + w % B := by unfold Mw; rw [if_neg hw]
    have he : Ew w = w / B - 1 := by unfold Ew; rw [if_neg hw]
    have hmod := Nat.mod_lt w hB
    have hdm := Nat.div_add_mod w B
    have hone : 1 ≤ w / B := (Nat.one_le_div_iff hB).2 (by omega)
    have hl : (Mw w).log2 = 52 := log_eq (by rw [hm]; show B ≤ _; omega) (by rw [hm]; show _ < 2 * B; omega)
    have hlast : lastP (Mw w) (Pw w) = Pw w := by unfold lastP; rw [hl]; unfold Pw; omega
    rw [if_neg (by rw [hm]; omega)]
    unfold keptN
    rw [hlast, Int.sub_self, Int.toNat_zero, rne_exact, hm]
    have e1 : (Pw w + 1074).toNat = w / B - 1 := by unfold Pw; rw [he]; omega
    rw [e1]
    have e2 : (w / B - 1) * B + B = B * (w / B) := by
      obtain ⟨k, hk⟩ : ∃ k, w / B = k + 1 := ⟨w / B - 1, by omega⟩
      rw [hk, Nat.add_sub_cancel, Nat.mul_comm, Nat.mul_add, Nat.mul_one]
    have e3 : (w / B - 1) * B + (B + w % B) = w := by rw [← Nat.add_assoc, e2, hdm]
    rw [e3]
    exact Nat.min_eq_left (Nat.le_of_lt h)
/-- What is not below a word's number is rounded to no lower word. -/
theorem near_ge {v m : Nat} {p : Int} (hv : v < INF) (h : Le (Mw v) (Pw v) m p) : v ≤ near m p := by
  have := near_mono h
  rwa [near_exact hv] at this
theorem near_le {v m : Nat} {p : Int} (hv : v < INF) (h : Le m p (Mw v) (Pw v)) : near m p ≤ v := by
  have := near_mono h
  rwa [near_exact hv] at this
end Fl
end Go.Proofs.Ytiancafoipllbaa

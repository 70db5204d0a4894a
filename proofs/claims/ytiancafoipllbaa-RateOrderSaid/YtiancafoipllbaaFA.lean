/- What is proved: plain laws on floats: words that are no less than nought stand in their order; rounding is monotone, and leaves what is exact; no program in sight. No condition. -/
import Derived.Laws.Cover2
import Derived.Laws.FloatArith
namespace Go.Proofs.Ytiancafoipllbaa
namespace Fl
open Ieee

/-- n / 2^k, to the nearest, ties to even. -/
def rne (n k : Nat) : Nat := n / 2 ^ k + (if 2 ^ k < 2 * (n % 2 ^ k) ∨ (2 ^ k = 2 * (n % 2 ^ k) ∧ n / 2 ^ k % 2 = 1) then 1 else 0)
theorem cut_even (neg : Bool) (n drop : Nat) : Toward.even.cut neg n drop = rne n drop := by
  have hcut : ∀ g : Nat, (n / g + (decide (g < 2 * (n % g)) || (g == 2 * (n % g) && n / g % 2 == 1)).toNat) = n / g + (if g < 2 * (n % g) ∨ (g = 2 * (n % g) ∧ n / g % 2 = 1) then 1 else 0) := fun g => by
    congr 1
    by_cases h1 : g < 2 * (n % g)
    · rw [if_pos (.inl h1), decide_eq_true h1]; rfl
    · by_cases h2 : g = 2 * (n % g) ∧ n / g % 2 = 1
      · rw [if_pos (.inr h2), decide_eq_false h1]
        obtain ⟨h3, h4⟩ := h2
        have e1 : (g == 2 * (n % g)) = true := beq_iff_eq.2 h3
        have e2 : (n / g % 2 == 1) = true := beq_iff_eq.2 h4
        rw [e1, e2]; rfl
      · rw [if_neg (by rintro (h | h); exact h1 h; exact h2 h), decide_eq_false h1]
        have : (g == 2 * (n % g) && n / g % 2 == 1) = false := by
          rw [Bool.eq_false_iff]
          intro hc
          rw [Bool.and_eq_true, beq_iff_eq, beq_iff_eq] at hc
          exact h2 hc
        rw [this]; rfl
  have hdef : Toward.even.cut neg n drop = n / (1 <<< min drop (n.log2 + 2)) + (decide ((1 <<< min drop (n.log2 + 2)) < 2 * (n % (1 <<< min drop (n.log2 + 2)))) || ((1 <<< min drop (n.log2 + 2)) == 2 * (n % (1 <<< min drop (n.log2 + 2))) && n / (1 <<< min drop (n.log2 + 2)) % 2 == 1)).toNat := rfl
  rw [hdef, hcut, Nat.one_shiftLeft]
  by_cases h : drop ≤ n.log2 + 2
  · rw [Nat.min_eq_left h]; rfl
  · rw [Nat.min_eq_right (by omega)]
    have hn : n < 2 ^ (n.log2 + 1) := Nat.lt_log2_self
    have h1 : 2 * n < 2 ^ (n.log2 + 2) := by rw [Nat.pow_succ]; omega
    have h2 : 2 ^ (n.log2 + 2) ≤ 2 ^ drop := Nat.pow_le_pow_right (by decide) (by omega)
    have z : ∀ g : Nat, 2 * n < g → n / g + (if g < 2 * (n % g) ∨ (g = 2 * (n % g) ∧ n / g % 2 = 1) then 1 else 0) = 0 := fun g hg => by
      rw [Nat.div_eq_of_lt (by omega), Nat.mod_eq_of_lt (by omega), if_neg (by omega)]
    unfold rne
    rw [z _ h1, z _ (by omega)]
theorem rne_spec (n k : Nat) : (2 * rne n k) * 2 ^ k ≤ 2 * n + 2 ^ k ∧ 2 * n ≤ (2 * rne n k + 1) * 2 ^ k ∧ ((2 * rne n k) * 2 ^ k = 2 * n + 2 ^ k → rne n k % 2 = 0) ∧ (2 * n = (2 * rne n k + 1) * 2 ^ k → rne n k % 2 = 0) := by
  have hp : 0 < 2 ^ k := Nat.two_pow_pos k
  have hd := Nat.div_add_mod n (2 ^ k)
  have hm := Nat.mod_lt n hp
  unfold rne
  obtain ⟨g, hg⟩ : ∃ g, g = 2 ^ k := ⟨_, rfl⟩
  obtain ⟨q, hq⟩ : ∃ q, q = n / 2 ^ k := ⟨_, rfl⟩
  obtain ⟨r, hr⟩ : ∃ r, r = n % 2 ^ k := ⟨_, rfl⟩
  rw [← hq, ← hr, ← hg] at hd
  rw [← hr, ← hg] at hm
  rw [← hq, ← hr, ← hg]
  rw [← hg] at hp
  have e1 : ∀ z : Nat, (2 * z) * g = 2 * (g * z) := fun z => by rw [Nat.mul_assoc, Nat.mul_comm z g]
  have e2 : ∀ z : Nat, (2 * z + 1) * g = 2 * (g * z) + g := fun z => by rw [Nat.add_mul, Nat.one_mul, e1]
  split
  · rename_i h
    rw [e1, e2, Nat.mul_add, Nat.mul_one]
    refine ⟨by omega, by omega, fun h' => by omega, fun h' => by omega⟩
  · rename_i h
    rw [Nat.add_zero, e1, e2]
    refine ⟨by omega, by omega, fun h' => by omega, fun h' => ?_⟩
    have : g = 2 * r := by omega
    omega
theorem rne_mono {n1 k1 n2 k2 : Nat} (h : n1 * 2 ^ k2 ≤ n2 * 2 ^ k1) : rne n1 k1 ≤ rne n2 k2 := by
  apply Nat.le_of_not_lt
  intro hlt
  obtain ⟨a1, _, a3, _⟩ := rne_spec n1 k1
  obtain ⟨_, b2, _, b4⟩ := rne_spec n2 k2
  obtain ⟨z1, hz1⟩ : ∃ z, z = rne n1 k1 := ⟨_, rfl⟩
  obtain ⟨z2, hz2⟩ : ∃ z, z = rne n2 k2 := ⟨_, rfl⟩
  rw [← hz1] at a1 a3 hlt
  rw [← hz2] at b2 b4 hlt
  obtain ⟨g1, hg1⟩ : ∃ g, g = 2 ^ k1 := ⟨_, rfl⟩
  obtain ⟨g2, hg2⟩ : ∃ g, g = 2 ^ k2 := ⟨_, rfl⟩
  have p1 : 0 < g1 := by rw [hg1]; exact Nat.two_pow_pos k1
  have p2 : 0 < g2 := by rw [hg2]; exact Nat.two_pow_pos k2
  rw [← hg1] at a1 a3 h
  rw [← hg2] at b2 b4 h
  -- all over 2^(k1 + k2)
  have c1 : (2 * z1 * g1) * g2 ≤ (2 * n1 + g1) * g2 := Nat.mul_le_mul_right _ a1
  have c2 : (2 * n2) * g1 ≤ ((2 * z2 + 1) * g2) * g1 := Nat.mul_le_mul_right _ b2
  obtain ⟨G, hG⟩ : ∃ G, G = g1 * g2 := ⟨_, rfl⟩
  have pG : 0 < G := by rw [hG]; exact Nat.mul_pos p1 p2
  have d1 : 2 * z1 * G ≤ 2 * (n1 * g2) + G := by
    have e : (2 * z1 * g1) * g2 = 2 * z1 * G := by rw [hG, Nat.mul_assoc]
    have e' : (2 * n1 + g1) * g2 = 2 * (n1 * g2) + G := by rw [hG, Nat.add_mul, Nat.mul_assoc]
    omega
  have d2 : 2 * (n2 * g1) ≤ (2 * z2 + 1) * G := by
    have e : ((2 * z2 + 1) * g2) * g1 = (2 * z2 + 1) * G := by rw [hG, Nat.mul_assoc, Nat.mul_comm g2 g1]
    have e' : (2 * n2) * g1 = 2 * (n2 * g1) := Nat.mul_assoc ..
    omega
  have d3 : (2 * z2 + 1) * G + G ≤ 2 * z1 * G := by
    have : (2 * z2 + 2) * G ≤ 2 * z1 * G := Nat.mul_le_mul_right _ (by omega)
    have e : (2 * z2 + 2) * G = (2 * z2 + 1) * G + G := by rw [show 2 * z2 + 2 = (2 * z2 + 1) + 1 by omega, Nat.add_mul, Nat.one_mul]
    omega
  have k1 : 2 * z1 * G = (2 * z2 + 1) * G + G := by omega
  have k2 : 2 * z1 = 2 * z2 + 2 := by
    have e : (2 * z2 + 1) * G + G = (2 * z2 + 2) * G := by rw [show 2 * z2 + 2 = (2 * z2 + 1) + 1 by omega, Nat.add_mul (2 * z2 + 1) 1 G, Nat.one_mul]
    rw [e] at k1
    exact Nat.eq_of_mul_eq_mul_right pG k1
  have f1 : 2 * z1 * g1 = 2 * n1 + g1 := by
    have e : (2 * z1 * g1) * g2 = (2 * n1 + g1) * g2 := by
      have e : (2 * z1 * g1) * g2 = 2 * z1 * G := by rw [hG, Nat.mul_assoc]
      have e' : (2 * n1 + g1) * g2 = 2 * (n1 * g2) + G := by rw [hG, Nat.add_mul, Nat.mul_assoc]
      omega
    exact Nat.eq_of_mul_eq_mul_right p2 e
  have f2 : 2 * n2 = (2 * z2 + 1) * g2 := by
    have e : (2 * n2) * g1 = ((2 * z2 + 1) * g2) * g1 := by
      have e : ((2 * z2 + 1) * g2) * g1 = (2 * z2 + 1) * G := by rw [hG, Nat.mul_assoc, Nat.mul_comm g2 g1]
      have e' : (2 * n2) * g1 = 2 * (n2 * g1) := Nat.mul_assoc ..
      omega
    exact Nat.eq_of_mul_eq_mul_right p1 e
  have q1 := a3 f1
  have q2 := b4 f2
  omega
theorem rne_exact (z k : Nat) : rne (z * 2 ^ k) k = z := by
  have hp : 0 < 2 ^ k := Nat.two_pow_pos k
  unfold rne
  rw [Nat.mul_div_cancel _ hp, Nat.mul_mod_left, if_neg (by omega)]
  rfl
end Fl
end Go.Proofs.Ytiancafoipllbaa

/- What is proved: plain laws on floats: the rate that a fee is of a weight, and the fee at that rate; no program in sight. No condition. -/
import Derived.Test.YtiancafoipllbaaFE
namespace Go.Proofs.Ytiancafoipllbaa
namespace Fl
open Ieee

theorem big_B : (2 : Nat) * B = 9007199254740992 := by decide
theorem B_52 : B = 2 ^ 52 := by decide
theorem fN_pos {n : Nat} (h0 : 0 < n) (h : n < 2 * B) : 0 < fN n := by
  rw [← U_lt_iff, fN_U h, U_0]
  exact Nat.mul_pos h0 ONEpos
theorem M_pos {b : Nat} (h : 0 < b) : Mw b ≠ 0 := by
  unfold Mw
  have := Bpos
  split <;> omega
theorem ONE_split {k : Nat} (h : k ≤ 1074) : ONE = 2 ^ (1074 - k) * 2 ^ k := by
  unfold ONE
  rw [← Nat.pow_add, TEN_eq, Nat.sub_add_cancel h]
/-- Whole numbers from 1 on are normal. -/
theorem fN_normal {n : Nat} (h0 : 0 < n) (h : n ≤ 1125899906842624) : B ≤ Mw (fN n) ∧ Mw (fN n) < 2 * B ∧ 1022 ≤ Ew (fN n) ∧ Ew (fN n) ≤ 1072 := by
  have hb := big_B
  have hU := fN_U (n := n) (by omega)
  have hM : ¬ fN n < B := by
    intro hlt
    have : U (fN n) < B := by unfold U Mw Ew; rw [if_pos hlt, if_pos hlt, Nat.pow_zero, Nat.mul_one]; exact hlt
    obtain ⟨K, hK⟩ : ∃ K : Nat, K = 53 := ⟨_, rfl⟩
    rw [hU, ONE_split (k := K) (by omega)] at this
    have h1 : 1 * (1 * 2 ^ K) ≤ n * (2 ^ (1074 - K) * 2 ^ K) := Nat.mul_le_mul h0 (Nat.mul_le_mul_right _ (Nat.two_pow_pos _))
    have h2 : (2 : Nat) ^ K = 2 * B := by rw [hK]; decide
    rw [h2] at h1 this
    generalize n * (2 ^ (1074 - K) * (2 * B)) = x at this h1
    omega
  have m1 : B ≤ Mw (fN n) := by unfold Mw; rw [if_neg hM]; exact Nat.le_add_right _ _
  have m2 : Mw (fN n) < 2 * B := by unfold Mw; rw [if_neg hM]; have := Nat.mod_lt (fN n) Bpos; omega
  have hU' : Mw (fN n) * 2 ^ Ew (fN n) = n * ONE := hU
  generalize Mw (fN n) = a at *
  generalize Ew (fN n) = x at *
  refine ⟨m1, m2, ?_, ?_⟩
  · apply Nat.le_of_not_lt
    intro hlt
    rw [ONE_split (k := x) (by omega), ← Nat.mul_assoc] at hU'
    have h1 := Nat.eq_of_mul_eq_mul_right (Nat.two_pow_pos x) hU'
    have h2 : 2 ^ 53 ≤ 2 ^ (1074 - x) := Nat.pow_le_pow_right (by decide) (by omega)
    have h3 : 1 * 2 ^ (1074 - x) ≤ n * 2 ^ (1074 - x) := Nat.mul_le_mul_right _ h0
    have h4 : (2 : Nat) ^ 53 = 9007199254740992 := by decide
    omega
  · apply Nat.le_of_not_lt
    intro hlt
    obtain ⟨T, hT⟩ : ∃ T : Nat, T = 1073 := ⟨_, rfl⟩
    have hTT : TEN = T + 1 := by rw [TEN_eq, hT]
    have e1 : ONE = 2 * 2 ^ T := by unfold ONE; rw [hTT, Nat.pow_succ']
    have hTx : T ≤ x := by omega
    clear hTT
    have h1 : B * 2 ^ T ≤ a * 2 ^ x := Nat.mul_le_mul m1 (Nat.pow_le_pow_right (by decide) hTx)
    clear hT hTx
    rw [hU', e1] at h1
    have h2 : n * (2 * 2 ^ T) ≤ 1125899906842624 * (2 * 2 ^ T) := Nat.mul_le_mul_right _ h
    have hB : B = 4503599627370496 := rfl
    rw [hB] at h1
    have := Nat.two_pow_pos T
    generalize (2 : Nat) ^ T = z at *
    omega
theorem log_normal {m : Nat} (h1 : B ≤ m) (h2 : m < 2 * B) : m.log2 = 52 := log_eq (by rw [← B_52]; exact h1) (by rw [Nat.pow_succ, ← B_52]; omega)
/-- A quotient of two normal significands. -/
theorem quo_spec {a b : Nat} (ha1 : B ≤ a) (ha2 : a < 2 * B) (hb1 : B ≤ b) (hb2 : b < 2 * B) (i j : Int) : ∃ q, quoN a b i j = (q, i - j - 55) ∧ a * 36028797018963968 ≤ q * b + b ∧ q * b ≤ a * 36028797018963968 + b ∧ 18014398509481984 ≤ q ∧ q ≤ 72057594037927936 := by
  have e : 54 + b.log2 - a.log2 = 54 := by rw [log_normal ha1 ha2, log_normal hb1 hb2]
  have hp : (2 : Nat) ^ 54 = 18014398509481984 := by decide
  have hb0 : 0 < b := by have := Bpos; omega
  unfold quoN
  rw [e, Nat.shiftLeft_eq, hp]
  refine ⟨_, by rw [show ((54 : Nat) : Int) = 54 from rfl]; congr 1; omega, ?_⟩
  have hd := Nat.div_add_mod (a * 18014398509481984) b
  have hm := Nat.mod_lt (a * 18014398509481984) hb0
  have hs : (((a * 18014398509481984) % b != 0)).toNat = if (a * 18014398509481984) % b ≠ 0 then 1 else 0 := by
    by_cases h : (a * 18014398509481984) % b = 0
    · rw [h]; rfl
    · rw [if_pos h, bne_iff_ne.2 h]; rfl
  rw [hs]
  have hA : a * 36028797018963968 = 2 * (a * 18014398509481984) := by omega
  rw [hA]
  generalize hD : a * 18014398509481984 = D at hd hm
  have hB : B = 4503599627370496 := rfl
  rw [hB] at ha1 ha2 hb1 hb2
  have hk1 : 9007199254740992 ≤ D / b := by
    rw [Nat.le_div_iff_mul_le hb0]
    omega
  have hk2 : D / b < 36028797018963968 := by
    rw [Nat.div_lt_iff_lt_mul hb0]
    omega
  clear hA hD hB hs ha1 ha2 hb1 hb2 e
  generalize D / b = k at hd hk1 hk2
  generalize D % b = t at hd hm
  have e1 : (2 * k) * b = 2 * (b * k) := by rw [Nat.mul_assoc, Nat.mul_comm k b]
  have e2 : (2 * k + 1) * b = 2 * (b * k) + b := by rw [Nat.add_mul, Nat.one_mul, e1]
  split
  · rw [e2]
    exact ⟨by omega, by omega, by omega, by omega⟩
  · rw [Nat.add_zero, e1]
    exact ⟨by omega, by omega, by omega, by omega⟩
theorem near_56 : near 72057594037927936 0 < INF := by decide +kernel
theorem div_lt {f n : Nat} (hf : f ≤ 1125899906842624) (hn0 : 0 < n) (hn : n ≤ 1048576) : divW (fN f) (fN n) < INF := by
  by_cases h0 : f = 0
  · subst h0
    have e0 : fN 0 = 0 := near_0 0
    have eM : Mw 0 = 0 := by unfold Mw; rw [if_pos Bpos]
    unfold divW
    rw [e0, eM]
    have : (quoN 0 (Mw (fN n)) (Pw 0) (Pw (fN n))).1 = 0 := by
      unfold quoN
      rw [Nat.zero_shiftLeft, Nat.zero_div, Nat.zero_mod]
      rfl
    rw [this, near_0]
    decide
  · obtain ⟨a1, a2, a3, a4⟩ := fN_normal (n := f) (by omega) hf
    obtain ⟨b1, b2, b3, b4⟩ := fN_normal hn0 (by omega)
    obtain ⟨q, hq, _, _, _, hq2⟩ := quo_spec a1 a2 b1 b2 (Pw (fN f)) (Pw (fN n))
    unfold divW
    rw [hq]
    refine near_fin (m2 := 72057594037927936) (p2 := 0) ?_ near_56
    refine Le.of (e1 := 0) (e2 := (0 - (Pw (fN f) - Pw (fN n) - 55)).toNat) (by unfold Pw; omega) ?_
    rw [Nat.pow_zero, Nat.mul_one]
    exact Nat.le_trans hq2 (Nat.le_mul_of_pos_right _ (Nat.two_pow_pos _))
theorem lin1 {A Y C : Nat} (h1 : A * 36028797018963968 ≤ Y + C) (h2 : C ≤ 2 * A) : A * 36028797018963968 ≤ Y + 2 * A := by omega
theorem lin2 {A Y C : Nat} (h1 : Y ≤ A * 36028797018963968 + C) (h2 : C ≤ 2 * A) : Y ≤ A * 36028797018963968 + 2 * A := by omega
theorem lin3 {F Z S G O : Nat} (g1 : F * 36028797018963968 ≤ Z * 36028797018963968 + 2 * F) (g2 : Z * 36028797018963968 ≤ F * 36028797018963968 + 2 * F) (g3 : 2 * S ≤ 2 * Z + G) (g4 : 2 * Z ≤ 2 * S + G) (g5 : 4503599627370496 * G ≤ Z) (g6 : F ≤ 1073741824 * O) (g7 : O ≤ F) : 2 * F - O ≤ 2 * S ∧ 2 * S ≤ 2 * F + O := by omega
/-- The rate of a fee, times the weight, is the fee, nearly. -/
theorem div_mul {f n : Nat} (hf0 : 0 < f) (hf : f ≤ 1073741824) (hn0 : 0 < n) (hn : n ≤ 1048576) : (2 * f - 1) * ONE ≤ 2 * (U (divW (fN f) (fN n)) * n) ∧ 2 * (U (divW (fN f) (fN n)) * n) ≤ (2 * f + 1) * ONE := by
  have hb := big_B
  have hlt := div_lt (f := f) (by omega) hn0 hn
  obtain ⟨a1, a2, a3, a4⟩ := fN_normal (n := f) hf0 (by omega)
  obtain ⟨b1, b2, b3, b4⟩ := fN_normal hn0 (by omega)
  obtain ⟨q, hq, q1, q2, q3, q4⟩ := quo_spec a1 a2 b1 b2 (Pw (fN f)) (Pw (fN n))
  have uf := fN_U (n := f) (by omega)
  have un := fN_U (n := n) (by omega)
  unfold U at uf un
  unfold divW at hlt ⊢
  rw [hq] at hlt ⊢
  generalize Mw (fN f) = a at *
  generalize Mw (fN n) = b at *
  have hP : Pw (fN f) - Pw (fN n) - 55 = (Ew (fN f) : Int) - Ew (fN n) - 55 := by unfold Pw; omega
  rw [hP] at hlt ⊢
  generalize Ew (fN f) = x at *
  generalize Ew (fN n) = y at *
  clear hq hP
  -- the rounding
  have hq0 : q ≠ 0 := by intro h; omega
  have hr := near_U hq0 hlt
  have hl1 : 54 ≤ q.log2 := (Nat.le_log2 hq0).2 (by rw [show (2 : Nat) ^ 54 = 18014398509481984 by decide]; exact q3)
  have hl2 : 2 ^ q.log2 ≤ q := Nat.log2_self_le hq0
  have hlast : lastP q ((x : Int) - y - 55) = (x : Int) - y - 55 + (q.log2 - 52 : Nat) := by unfold lastP; omega
  obtain ⟨k, hk⟩ : ∃ k, k = q.log2 - 52 := ⟨_, rfl⟩
  rw [← hk] at hlast
  obtain ⟨E, hE⟩ : ∃ E : Nat, (E : Int) = (x : Int) - y - 55 + 1074 := ⟨((x : Int) - y - 55 + 1074).toNat, by omega⟩
  have e1 : (lastP q ((x : Int) - y - 55) + 1074).toNat = k + E := by rw [hlast]; omega
  have e2 : keptN q ((x : Int) - y - 55) = rne q k := by
    unfold keptN
    rw [hlast]
    have t1 : ((x : Int) - y - 55 - ((x : Int) - y - 55 + (k : Nat))).toNat = 0 := by omega
    have t2 : ((x : Int) - y - 55 + (k : Nat) - ((x : Int) - y - 55)).toNat = k := by omega
    rw [t1, t2, Nat.pow_zero, Nat.mul_one]
  rw [e1, e2, Nat.pow_add, ← Nat.mul_assoc] at hr
  obtain ⟨s1, s2, _, _⟩ := rne_spec q k
  have hk2 : 2 ^ 52 * 2 ^ k ≤ q := by rw [← Nat.pow_add, hk, Nat.add_sub_cancel' (by omega)]; exact hl2
  rw [hr]
  have r1 : 2 * (rne q k * 2 ^ k) ≤ 2 * q + 2 ^ k := by rw [← Nat.mul_assoc]; exact s1
  have r2 : 2 * q ≤ 2 * (rne q k * 2 ^ k) + 2 ^ k := by
    have : (2 * rne q k + 1) * 2 ^ k = 2 * (rne q k * 2 ^ k) + 2 ^ k := by rw [Nat.add_mul, Nat.one_mul, Nat.mul_assoc]
    rw [← this]; exact s2
  clear s1 s2 hr e1 e2 hlast hlt
  generalize rne q k * 2 ^ k = R at *
  -- all in units of ONE
  obtain ⟨T, hT⟩ : ∃ T : Nat, T = 1019 := ⟨_, rfl⟩
  have hxy : E + y = x + T := by omega
  have o1 : ONE = 36028797018963968 * 2 ^ T := by
    rw [ONE_split (k := T) (by omega), show 1074 - T = 55 by omega, show (2 : Nat) ^ 55 = 36028797018963968 by decide]
  have o2 : 2 ^ E * 2 ^ y = 2 ^ x * 2 ^ T := by rw [← Nat.pow_add, ← Nat.pow_add, hxy]
  clear hxy hT hE
  have hZ : q * 2 ^ E * n * 36028797018963968 = q * b * 2 ^ x := by
    have h1 : q * 2 ^ E * n * ONE = q * b * 2 ^ x * 2 ^ T := by
      rw [Nat.mul_assoc (q * 2 ^ E), ← un, Nat.mul_assoc q, ← Nat.mul_assoc (2 ^ E) b, Nat.mul_comm (2 ^ E) b, Nat.mul_assoc b, o2, ← Nat.mul_assoc, ← Nat.mul_assoc]
    rw [o1, ← Nat.mul_assoc] at h1
    exact Nat.eq_of_mul_eq_mul_right (Nat.two_pow_pos T) h1
  clear o1 o2
  have g1 : f * ONE * 36028797018963968 ≤ q * 2 ^ E * n * 36028797018963968 + 2 * (f * ONE) := by
    rw [hZ, ← uf]
    have h1 := Nat.mul_le_mul_right (2 ^ x) q1
    rw [Nat.add_mul] at h1
    have h2 : b * 2 ^ x ≤ (2 * a) * 2 ^ x := Nat.mul_le_mul_right _ (by omega)
    have h3 : a * 36028797018963968 * 2 ^ x = a * 2 ^ x * 36028797018963968 := Nat.mul_right_comm ..
    have h4 : 2 * a * 2 ^ x = 2 * (a * 2 ^ x) := Nat.mul_assoc ..
    rw [h3] at h1
    rw [h4] at h2
    exact lin1 h1 h2
  have g2 : q * 2 ^ E * n * 36028797018963968 ≤ f * ONE * 36028797018963968 + 2 * (f * ONE) := by
    rw [hZ, ← uf]
    have h1 := Nat.mul_le_mul_right (2 ^ x) q2
    rw [Nat.add_mul] at h1
    have h2 : b * 2 ^ x ≤ (2 * a) * 2 ^ x := Nat.mul_le_mul_right _ (by omega)
    have h3 : a * 36028797018963968 * 2 ^ x = a * 2 ^ x * 36028797018963968 := Nat.mul_right_comm ..
    have h4 : 2 * a * 2 ^ x = 2 * (a * 2 ^ x) := Nat.mul_assoc ..
    rw [h3] at h1
    rw [h4] at h2
    exact lin2 h1 h2
  have g3 : 2 * (R * 2 ^ E * n) ≤ 2 * (q * 2 ^ E * n) + 2 ^ k * 2 ^ E * n := by
    have := Nat.mul_le_mul_right n (Nat.mul_le_mul_right (2 ^ E) r1)
    rw [Nat.add_mul, Nat.add_mul, Nat.mul_assoc 2, Nat.mul_assoc 2, Nat.mul_assoc 2, Nat.mul_assoc 2] at this
    exact this
  have g4 : 2 * (q * 2 ^ E * n) ≤ 2 * (R * 2 ^ E * n) + 2 ^ k * 2 ^ E * n := by
    have := Nat.mul_le_mul_right n (Nat.mul_le_mul_right (2 ^ E) r2)
    rw [Nat.add_mul, Nat.add_mul, Nat.mul_assoc 2, Nat.mul_assoc 2, Nat.mul_assoc 2, Nat.mul_assoc 2] at this
    exact this
  have g5 : 2 ^ 52 * (2 ^ k * 2 ^ E * n) ≤ q * 2 ^ E * n := by
    have := Nat.mul_le_mul_right n (Nat.mul_le_mul_right (2 ^ E) hk2)
    rw [Nat.mul_assoc (2 ^ 52), Nat.mul_assoc (2 ^ 52)] at this
    exact this
  have g6 : f * ONE ≤ 1073741824 * ONE := Nat.mul_le_mul_right _ hf
  have g7 : ONE ≤ f * ONE := Nat.le_mul_of_pos_left _ hf0
  have c2 : (2 : Nat) ^ 52 = 4503599627370496 := by decide
  have d1 : (2 * f - 1) * ONE = 2 * (f * ONE) - ONE := by rw [Nat.sub_mul, Nat.one_mul, Nat.mul_assoc]
  have d2 : (2 * f + 1) * ONE = 2 * (f * ONE) + ONE := by rw [Nat.add_mul, Nat.one_mul, Nat.mul_assoc]
  rw [d1, d2]
  rw [c2] at g5
  exact lin3 g1 g2 g3 g4 g5 g6 g7
/-- The fee at a rate of a fee: that fee again, or one more. -/
theorem fee_back {f n : Nat} (hf : f ≤ 1073741824) (hn0 : 0 < n) (hn : n ≤ 1048576) : f ≤ up (mulW (divW (fN f) (fN n)) (fN n)) ∧ up (mulW (divW (fN f) (fN n)) (fN n)) ≤ f + 1 := by
  have hb := big_B
  have hlt := div_lt (f := f) (by omega) hn0 hn
  have hne : divW (fN f) (fN n) ≠ NEG := fun e => by rw [e] at hlt; exact absurd hlt (by decide)
  have un := fN_U (n := n) (by omega)
  have eM : ∀ r, mulW r (fN n) = if r = NEG then NEG else near (Mw r * Mw (fN n)) (Pw r + Pw (fN n)) := fun r => rfl
  have prod : ∀ r, Mw r * Mw (fN n) * 2 ^ (Ew r + Ew (fN n)) = U r * n * ONE := fun r => by
    rw [Nat.mul_assoc (U r) n ONE, ← un]
    unfold U
    rw [Nat.pow_add, Nat.mul_mul_mul_comm]
  by_cases h0 : f = 0
  · subst h0
    have e0 : fN 0 = 0 := near_0 0
    have eM0 : Mw 0 = 0 := by unfold Mw; rw [if_pos Bpos]
    have : divW (fN 0) (fN n) = 0 := by
      unfold divW
      rw [e0, eM0]
      have : (quoN 0 (Mw (fN n)) (Pw 0) (Pw (fN n))).1 = 0 := by
        unfold quoN
        rw [Nat.zero_shiftLeft, Nat.zero_div, Nat.zero_mod]
        rfl
      rw [this, near_0]
    rw [this, eM, if_neg (by decide), eM0, Nat.zero_mul, near_0]
    exact ⟨Nat.zero_le _, up_le.2 (by rw [U_0]; exact Nat.zero_le _)⟩
  · obtain ⟨h1, h2⟩ := div_mul (f := f) (by omega) hf hn0 hn
    rw [eM, if_neg hne]
    have pr := prod (divW (fN f) (fN n))
    generalize divW (fN f) (fN n) = r at *
    have pw : ∀ v, (((Ew r + Ew (fN n) : Nat) : Int) - ((Ew v + TEN : Nat) : Int)) = Pw r + Pw (fN n) - Pw v := fun v => by
      have := TEN_eq
      unfold Pw
      omega
    constructor
    · -- not below the half
      have hv : near (2 * f - 1) (-1) < INF := near_fin (m2 := 2 ^ 53) (p2 := 0) (Le.of (e1 := 0) (e2 := 1) rfl (by have : (2 : Nat) ^ 53 = 9007199254740992 := (by decide); omega)) (by rw [near_53]; decide)
      have uv := near_own (m := 2 * f - 1) (p := -1) (by omega) (by omega) hv
      obtain ⟨T, hT⟩ : ∃ T : Nat, T = ((-1 : Int) + 1074).toNat := ⟨_, rfl⟩
      rw [← hT] at uv
      have hTT : TEN = T + 1 := by rw [TEN_eq, hT]; rfl
      have o2 : ONE = 2 ^ T * 2 := by unfold ONE; rw [hTT, Nat.pow_succ]
      clear hT hTT
      have hle : near (2 * f - 1) (-1) ≤ near (Mw r * Mw (fN n)) (Pw r + Pw (fN n)) := by
        refine near_ge hv (Le.of (e1 := Ew (near (2 * f - 1) (-1)) + TEN) (e2 := Ew r + Ew (fN n)) ?_ ?_)
        · have := pw (near (2 * f - 1) (-1))
          omega
        · rw [pr, Nat.pow_add, ← Nat.mul_assoc]
          refine Nat.mul_le_mul_right ONE ?_
          show U (near (2 * f - 1) (-1)) ≤ _
          rw [uv]
          rw [o2, ← Nat.mul_assoc] at h1
          omega
      apply Nat.le_of_not_lt
      intro hlt2
      have hc : ¬ fN (f - 1) < near (Mw r * Mw (fN n)) (Pw r + Pw (fN n)) := by
        rw [fN_lt_iff (by omega)]
        omega
      apply hc
      refine Nat.lt_of_lt_of_le ?_ hle
      rw [← U_lt_iff, fN_U (by omega), uv, o2, Nat.mul_comm (2 ^ T) 2, ← Nat.mul_assoc]
      exact Nat.mul_lt_mul_of_pos_right (by omega) (Nat.two_pow_pos T)
    · have hle : near (Mw r * Mw (fN n)) (Pw r + Pw (fN n)) ≤ fN (f + 1) := by
        refine near_le (fN_lt (by omega)) (Le.of (e1 := Ew r + Ew (fN n)) (e2 := Ew (fN (f + 1)) + TEN) ?_ ?_)
        · have := pw (fN (f + 1))
          omega
        · rw [pr, Nat.pow_add, ← Nat.mul_assoc]
          refine Nat.mul_le_mul_right ONE ?_
          show _ ≤ U (fN (f + 1))
          rw [fN_U (by omega)]
          have d1 : (2 * f + 1) * ONE = 2 * (f * ONE) + ONE := by rw [Nat.add_mul, Nat.one_mul, Nat.mul_assoc]
          have d2 : (f + 1) * ONE = f * ONE + ONE := by rw [Nat.add_mul, Nat.one_mul]
          rw [d1] at h2
          rw [d2]
          generalize f * ONE = F at *
          generalize U r * n = S at *
          generalize ONE = O at *
          omega
      have := up_mono hle
      rwa [up_fN (by omega)] at this
end Fl
end Go.Proofs.Ytiancafoipllbaa

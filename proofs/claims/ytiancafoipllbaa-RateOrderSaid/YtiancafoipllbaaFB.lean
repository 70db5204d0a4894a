/- What is proved: plain laws on floats: what a word stands for; the order of words; which words are rates; no program in sight. No condition. -/
import Derived.Test.YtiancafoipllbaaFA
namespace Go.Proofs.Ytiancafoipllbaa
namespace Fl
open Ieee

def B : Nat := 4503599627370496
def INF : Nat := 9218868437227405312
def NEG : Nat := 9223372036854775808
theorem d_binade : double.binade = B := by decide
theorem d_inf : double.infRung = INF := by decide
theorem d_sign : double.signWeight = NEG := by decide
theorem d_least : double.leastPlace = -1074 := by decide
def Mw (w : Nat) : Nat := if w < B then w else B + w % B
def Ew (w : Nat) : Nat := if w < B then 0 else w / B - 1
def U (w : Nat) : Nat := Mw w * 2 ^ Ew w
theorem read_eq (word : Nat) : double.read word = (if word % NEG < B then .number (word / NEG % 2 == 1) (word % NEG) (-1074) else if word % NEG < INF then .number (word / NEG % 2 == 1) (B + word % NEG % B) (-1074 + (word % NEG / B - 1 : Nat)) else if word % NEG = INF then .infinity (word / NEG % 2 == 1) else .nan (word / NEG % 2 == 1) (word % NEG - INF)) := by
  unfold Format.read
  rw [d_sign, d_binade, d_inf, d_least]
theorem read_fin {w : Nat} (h : w < INF) : double.read w = .number false (Mw w) (-1074 + (Ew w : Nat)) := by
  have h1 : w % NEG = w := Nat.mod_eq_of_lt (by unfold INF at h; unfold NEG; omega)
  have h2 : w / NEG = 0 := Nat.div_eq_of_lt (by unfold INF at h; unfold NEG; omega)
  rw [read_eq, h1, h2]
  unfold Mw Ew
  by_cases hb : w < B
  · rw [if_pos hb, if_pos hb, if_pos hb]
    rfl
  · rw [if_neg hb, if_neg hb, if_neg hb, if_pos h]
    rfl
theorem pow_pos' (k : Nat) : 0 < 2 ^ k := Nat.two_pow_pos k
theorem U_lt {a b : Nat} (h : a < b) : U a < U b := by
  have hB : 0 < B := by decide
  unfold U Mw Ew
  by_cases hb : b < B
  · have ha : a < B := by omega
    rw [if_pos ha, if_pos ha, if_pos hb, if_pos hb]
    simpa using h
  · rw [if_neg hb, if_neg hb]
    by_cases ha : a < B
    · rw [if_pos ha, if_pos ha]
      have h1 : B * 1 ≤ (B + b % B) * 2 ^ (b / B - 1) := Nat.mul_le_mul (by omega) (pow_pos' _)
      omega
    · rw [if_neg ha, if_neg ha]
      have da := Nat.div_add_mod a B
      have db := Nat.div_add_mod b B
      have ma := Nat.mod_lt a hB
      have mb := Nat.mod_lt b hB
      have ea : 1 ≤ a / B := (Nat.one_le_div_iff hB).2 (by omega)
      have hle : a / B ≤ b / B := Nat.div_le_div_right (by omega)
      by_cases he : a / B = b / B
      · rw [he] at da ⊢
        exact Nat.mul_lt_mul_of_pos_right (by omega) (pow_pos' _)
      · have h1 : (B + a % B) * 2 ^ (a / B - 1) < (2 * B) * 2 ^ (a / B - 1) := Nat.mul_lt_mul_of_pos_right (by omega) (pow_pos' _)
        have h2 : (2 * B) * 2 ^ (a / B - 1) = B * 2 ^ (a / B) := by
          obtain ⟨k, hk⟩ : ∃ k, a / B = k + 1 := ⟨a / B - 1, by omega⟩
          rw [hk, Nat.add_sub_cancel, Nat.pow_succ, Nat.mul_comm 2 B, Nat.mul_assoc, Nat.mul_comm 2]
        have h3 : B * 2 ^ (a / B) ≤ (B + b % B) * 2 ^ (b / B - 1) := Nat.mul_le_mul (by omega) (Nat.pow_le_pow_right (by decide) (by omega))
        omega
theorem U_cmp (a b : Nat) : compare (U a) (U b) = compare a b := by
  rcases Nat.lt_trichotomy a b with h | h | h
  · rw [Nat.compare_eq_lt.2 h, Nat.compare_eq_lt.2 (U_lt h)]
  · subst h; rw [Nat.compare_eq_eq.2 rfl, Nat.compare_eq_eq.2 rfl]
  · rw [Nat.compare_eq_gt.2 h, Nat.compare_eq_gt.2 (U_lt h)]
theorem cmp_int (a b : Nat) : compare (a : Int) (b : Int) = compare a b := by
  simp only [compare, compareOfLessAndEq, Int.ofNat_lt, Int.ofNat_inj]
theorem cmp_mul (a b : Nat) {c : Nat} (hc : 0 < c) : compare (a * c) (b * c) = compare a b := by
  rcases Nat.lt_trichotomy a b with h | h | h
  · rw [Nat.compare_eq_lt.2 h, Nat.compare_eq_lt.2 (Nat.mul_lt_mul_of_pos_right h hc)]
  · subst h; rw [Nat.compare_eq_eq.2 rfl, Nat.compare_eq_eq.2 rfl]
  · rw [Nat.compare_eq_gt.2 h, Nat.compare_eq_gt.2 (Nat.mul_lt_mul_of_pos_right h hc)]
def Pw (w : Nat) : Int := -1074 + (Ew w : Nat)
/-- Finite words that are no less than nought stand in their order. -/
theorem order_fin {a b : Nat} (ha : a < INF) (hb : b < INF) : double.order a b = some (compare a b) := by
  unfold Format.order
  rw [read_fin ha, read_fin hb]
  show some (compare (signed false (Mw a) (Pw a - min (Pw a) (Pw b)).toNat) (signed false (Mw b) (Pw b - min (Pw a) (Pw b)).toNat)) = _
  have e1 : (Pw a - min (Pw a) (Pw b)).toNat = Ew a - min (Ew a) (Ew b) := by unfold Pw; omega
  have e2 : (Pw b - min (Pw a) (Pw b)).toNat = Ew b - min (Ew a) (Ew b) := by unfold Pw; omega
  rw [e1, e2]
  unfold signed
  simp only [Bool.false_eq_true, if_false]
  rw [cmp_int, Nat.shiftLeft_eq, Nat.shiftLeft_eq, ← cmp_mul _ _ (pow_pos' (min (Ew a) (Ew b))), Nat.mul_assoc, Nat.mul_assoc, ← Nat.pow_add, ← Nat.pow_add, Nat.sub_add_cancel (Nat.min_le_left ..), Nat.sub_add_cancel (Nat.min_le_right ..)]
  rw [← U_cmp a b]
  rfl
/-- The greatest rate. -/
def W6 : Nat := 4696837146684686336
def geB (a b : Nat) : Bool := double.order a b == some .gt || double.order a b == some .eq
def leB (a b : Nat) : Bool := double.order a b == some .lt || double.order a b == some .eq
def ltB (a b : Nat) : Bool := double.order a b == some .lt
def gtB (a b : Nat) : Bool := double.order a b == some .gt
def eqB (a b : Nat) : Bool := double.order a b == some .eq
theorem ltB_fin {a b : Nat} (ha : a < INF) (hb : b < INF) : ltB a b = decide (a < b) := by
  unfold ltB
  rw [order_fin ha hb]
  rcases Nat.lt_trichotomy a b with h | h | h
  · rw [Nat.compare_eq_lt.2 h, decide_eq_true h]; rfl
  · rw [Nat.compare_eq_eq.2 h, decide_eq_false (by omega)]; rfl
  · rw [Nat.compare_eq_gt.2 h, decide_eq_false (by omega)]; rfl
theorem gtB_fin {a b : Nat} (ha : a < INF) (hb : b < INF) : gtB a b = decide (b < a) := by
  unfold gtB
  rw [order_fin ha hb]
  rcases Nat.lt_trichotomy a b with h | h | h
  · rw [Nat.compare_eq_lt.2 h, decide_eq_false (by omega)]; rfl
  · rw [Nat.compare_eq_eq.2 h, decide_eq_false (by omega)]; rfl
  · rw [Nat.compare_eq_gt.2 h, decide_eq_true h]; rfl
theorem eqB_fin {a b : Nat} (ha : a < INF) (hb : b < INF) : eqB a b = decide (a = b) := by
  unfold eqB
  rw [order_fin ha hb]
  rcases Nat.lt_trichotomy a b with h | h | h
  · rw [Nat.compare_eq_lt.2 h, decide_eq_false (by omega)]; rfl
  · rw [Nat.compare_eq_eq.2 h, decide_eq_true h]; rfl
  · rw [Nat.compare_eq_gt.2 h, decide_eq_false (by omega)]; rfl
theorem geB_fin {a b : Nat} (ha : a < INF) (hb : b < INF) : geB a b = decide (b ≤ a) := by
  have : geB a b = (gtB a b || eqB a b) := rfl
  rw [this, gtB_fin ha hb, eqB_fin ha hb, ← Bool.decide_or]
  exact decide_eq_decide.2 (by omega)
theorem leB_fin {a b : Nat} (ha : a < INF) (hb : b < INF) : leB a b = decide (a ≤ b) := by
  have : leB a b = (ltB a b || eqB a b) := rfl
  rw [this, ltB_fin ha hb, eqB_fin ha hb, ← Bool.decide_or]
  exact decide_eq_decide.2 (by omega)
theorem read_zero : double.read 0 = .number false 0 (-1074) := by rw [read_eq]; decide
theorem read_W6 : ∃ m p, double.read W6 = .number false m p := ⟨_, _, read_fin (by decide)⟩
/-- A rate is right: nought, or minus nought, or a word up to the greatest. -/
def okW (r : Nat) : Prop := r ≤ W6 ∨ r = NEG
instance : DecidablePred okW := fun _ => inferInstanceAs (Decidable (_ ∨ _))
theorem order_neg {r : Nat} (h1 : NEG < r) (h2 : r < 2 * NEG) : geB r 0 = false := by
  have e1 : r % NEG = r - NEG := by
    rw [Nat.mod_eq_sub_mod (by omega), Nat.mod_eq_of_lt (by omega)]
  have e2 : r / NEG = 1 := Nat.div_eq_of_lt_le (by omega) (by omega)
  have hp : 0 < r - NEG := by omega
  unfold geB Format.order
  rw [read_zero, read_eq, e1, e2]
  obtain ⟨x, hx⟩ : ∃ x, x = r - NEG := ⟨_, rfl⟩
  rw [← hx] at hp ⊢
  have hB : 0 < B := by decide
  have num : ∀ (m : Nat) (p : Int), 0 < m → ((Datum.number true m p).order (.number false 0 (-1074)) == some .gt || (Datum.number true m p).order (.number false 0 (-1074)) == some .eq) = false := fun m p hm => by
    have : (Datum.number true m p).order (.number false 0 (-1074)) = some .lt := by
      show some (compare (signed true m (p - min p (-1074)).toNat) (signed false 0 ((-1074 : Int) - min p (-1074)).toNat)) = _
      have h1 : signed true m (p - min p (-1074)).toNat = -(m <<< (p - min p (-1074)).toNat : Nat) := rfl
      have h2 : signed false 0 ((-1074 : Int) - min p (-1074)).toNat = 0 := by unfold signed; simp
      rw [h1, h2, Nat.shiftLeft_eq]
      have : 0 < m * 2 ^ (p - min p (-1074)).toNat := Nat.mul_pos hm (pow_pos' _)
      congr 1
      simp only [compare, compareOfLessAndEq]
      rw [if_pos (by omega)]
    rw [this]
    rfl
  show ((if x < B then Datum.number true x (-1074) else if x < INF then .number true (B + x % B) (-1074 + (x / B - 1 : Nat)) else if x = INF then .infinity true else .nan true (x - INF)).order (.number false 0 (-1074)) == some .gt || (if x < B then Datum.number true x (-1074) else if x < INF then .number true (B + x % B) (-1074 + (x / B - 1 : Nat)) else if x = INF then .infinity true else .nan true (x - INF)).order (.number false 0 (-1074)) == some .eq) = false
  split
  · exact num _ _ hp
  split
  · exact num _ _ (by omega)
  split
  · rfl
  · rfl
theorem order_big {r : Nat} (h1 : INF ≤ r) (h2 : r < NEG) : leB r W6 = false := by
  have e1 : r % NEG = r := Nat.mod_eq_of_lt h2
  have e2 : r / NEG = 0 := Nat.div_eq_of_lt h2
  obtain ⟨m, p, hm⟩ := read_W6
  unfold leB Format.order
  rw [hm, read_eq, e1, e2, if_neg (by have : B < INF := (by decide); omega), if_neg (by omega)]
  split <;> rfl
theorem order_minus : geB NEG 0 = true ∧ leB NEG W6 = true := by
  have hr : double.read NEG = .number true 0 (-1074) := by rw [read_eq]; decide
  constructor
  · unfold geB Format.order
    rw [hr, read_zero]
    rfl
  · obtain ⟨m, p, hm⟩ := read_W6
    unfold leB Format.order
    rw [hr, hm]
    show (some (compare (signed true 0 _) (signed false m _)) == some .lt || some (compare (signed true 0 _) (signed false m _)) == some .eq) = true
    have h1 : ∀ k, signed true 0 k = 0 := fun k => by unfold signed; simp
    have h2 : ∀ k, signed false m k = ((m <<< k : Nat) : Int) := fun k => rfl
    rw [h1, h2, show (0 : Int) = ((0 : Nat) : Int) from rfl, cmp_int]
    rcases Nat.eq_zero_or_pos (m <<< (p - min (-1074) p).toNat) with h | h
    · rw [h]; rfl
    · rw [Nat.compare_eq_lt.2 h]; rfl
/-- What Check tests. -/
theorem chk_iff {r : Nat} (h : r < 2 * NEG) : (geB r 0 && leB r W6) = decide (okW r) := by
  have hW : W6 < INF := by decide
  have hI : INF < NEG := by decide
  by_cases h1 : r < INF
  · rw [geB_fin h1 (by decide), leB_fin h1 hW, decide_eq_true (Nat.zero_le r), Bool.true_and]
    exact decide_eq_decide.2 ⟨.inl, fun h => h.resolve_right (by omega)⟩
  · by_cases h2 : r < NEG
    · rw [order_big (by omega) h2, Bool.and_false, decide_eq_false]
      unfold okW
      omega
    · by_cases h3 : r = NEG
      · subst h3
        rw [order_minus.1, order_minus.2]
        exact (decide_eq_true (.inr rfl)).symm
      · rw [order_neg (by omega) h, Bool.false_and, decide_eq_false]
        unfold okW
        omega
end Fl
end Go.Proofs.Ytiancafoipllbaa
